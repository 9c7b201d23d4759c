import Derived.Test.YtocpgkeiakjicaaGreatIteA11
import Derived.Test.YtocpgkeiakjicaaGreatVmWp2
set_option maxRecDepth 100000
set_option linter.unusedVariables false
set_option linter.unusedSimpArgs false
namespace Go.Vm.Pa
open Go.Vm.Lex (TokQ)
open Go.Vm.Tp (Nd I64)
structure TOk (l:List TokQ):Prop where
 len:l.length<=65537
 txt:∀ i,(l.getD i default).t.length<=65536
 val:∀ i,I64 (l.getD i default).v
 pos:∀ i,(l.getD i default).f<=65536/\(l.getD i default).e<=65536
 last:∀ i,i < l.length->(l.getD i default).k≠5->i+1 < l.length
structure f5r (n:Nat) (x:Nd):Prop where
 kid:∀ k∈x.kids,0<=k/\k.toNat<=n
 kl:x.kids.length<=1000000
 tl:x.t.length<=1000000
 v:I64 x.v
 f:I64 x.f
 e:I64 x.e
def b1z (s:PS):Prop:=s.ns.length=s.n/\∃ t:List Nd,s.ns=t.map Nd.D/\∀ x∈t,f5r s.n x
def c7i (m:Nat) (ks:List D) (n:Nat):Prop:=ks.length=n/\∃ il:List Int,ks=il.map (D.int .i64)/\∀ k∈il,0<=k/\k.toNat<=m
theorem c1g {m m' n:Nat} {ks:List D} (h:c7i m ks n) (hm:m<=m'):c7i m' ks n:=by
 obtain⟨h1,il,h2,h3⟩:=h
 exact⟨h1,il,h2,fun k hk=>⟨(h3 k hk).1,by have:=(h3 k hk).2;omega⟩⟩
theorem a6v (m:Nat):c7i m [] 0:=⟨rfl,[],rfl,fun k hk=>by cases hk⟩
theorem b1y {m:Nat} {i:Int} (h:0<=i/\i.toNat<=m):c7i m (one i) 1:=⟨rfl,[i],rfl,fun k hk=>by rw[List.mem_singleton.1 hk];exact h⟩
theorem d4n {m:Nat} {i j:Int} (h:0<=i/\i.toNat<=m) (g:0<=j/\j.toNat<=m):c7i m (two i j) 2:=⟨rfl,[i,j],rfl,fun k hk=>by
  simp only[List.mem_cons,List.not_mem_nil,or_false]at hk
  rcases hk with rfl|rfl
  ·exact h
  ·exact g⟩
theorem a7j {m:Nat} {i j p:Int} (h:0<=i/\i.toNat<=m) (g:0<=j/\j.toNat<=m) (k:0<=p/\p.toNat<=m):c7i m [.int .i64 i,.int .i64 j,.int .i64 p] 3:=⟨rfl,[i,j,p],rfl,fun x hx=>by
  simp only[List.mem_cons,List.not_mem_nil,or_false]at hx
  rcases hx with rfl|rfl|rfl
  ·exact h
  ·exact g
  ·exact k⟩
theorem a2h {m m':Nat} {ks:K} {i:Int} (h:c7i m ks.l ks.n) (hm:m<=m') (g:0<=i/\i.toNat<=m'):c7i m' (push ks i).l (push ks i).n:=by
 obtain⟨h1,il,h2,h3⟩:=c1g h hm
 refine⟨by show(ks.l++[_]).length=ks.n+1;rw[List.length_append,h1];rfl,il++[i],by show ks.l++[_]=_;rw[h2,List.map_append];rfl,fun k hk=>?_⟩
 rcases List.mem_append.1 hk with hk|hk
 ·exact h3 k hk
 ·rw[List.mem_singleton.1 hk];exact g
theorem a7a {s s1:PS} (h:b1z s) (h1:s1.ns=s.ns) (h2:s1.n=s.n):b1z s1:=by unfold b1z at*;rw[h1,h2];exact h
theorem f2l {s:PS} (h:b1z s) {s1:PS} {x:Nd} (h1:s1.ns=s.ns++[x.D]) (h2:s1.n=s.n+1) (hx:f5r (s.n+1) x):b1z s1:=by
 obtain⟨g1,t,g2,g3⟩:=h
 refine⟨by rw[h1,h2,List.length_append,g1];rfl,t++[x],by rw[h1,g2,List.map_append];rfl,fun y hy=>?_⟩
 rw[h2]
 rcases List.mem_append.1 hy with hy|hy
 ·have:=g3 y hy
  exact⟨fun k hk=>⟨(this.kid k hk).1,by have:=(this.kid k hk).2;omega⟩,this.kl,this.tl,this.v,this.f,this.e⟩
 ·rw[List.mem_singleton.1 hy];exact hx
section
variable {l:List TokQ} (hl:TOk l) {s s1:PS}
theorem d4y (h:okB s=true):s.bc=0:=by simpa [okB] using h
theorem e3z (h:okB s=false):s.bc≠0:=by simpa [okB] using h
theorem a4x {c:Int} (hc:c≠0):(a2n l c s).bc≠0:=by
 unfold a2n
 split
 ·exact hc
 ·rename_i h;simpa [okB] using h
theorem a4n {c:Int}:(a2n l c s).at_=s.at_:=by unfold a2n;split<;>rfl
theorem b0n {c:Int}:(a2n l c s).n=s.n:=by unfold a2n;split<;>rfl
theorem b3r {c:Int}:(a2n l c s).ns=s.ns:=by unfold a2n;split<;>rfl
include hl
theorem c9x (h5:(now l s).k≠5) (lo:0<=s.at_) (hi:s.at_ < l.length):(adv s).at_=s.at_+1/\s.at_+1 < l.length:=by
 have h1:=hl.last s.at_.toNat om h5
 have h2:=hl.len
 exact⟨a1k (n:=s.at_+1) om,om⟩
omit hl in
theorem d6s {x:S} (h:isS l s x=true):(now l s).k≠5:=by
 unfold isS at h
 simp only[Bool.and_eq_true,Bool.or_eq_true,decide_eq_true_eq]at h
 omega
theorem f7m {x:S} (e:a0y l x s=(true,s1)) (ns:b1z s) (lo:0<=s.at_) (hi:s.at_ < l.length):s.bc=0/\s1.bc=0/\s1.at_=s.at_+1/\s1.n=s.n/\s1.at_ < l.length/\b1z s1:=by
 unfold a0y at e
 split at e
 ·rename_i c
  simp only[Bool.and_eq_true]at c
  cases e
  have hb:=d4y c.1
  obtain⟨h1,h2⟩:=c9x hl (d6s c.2) lo hi
  exact⟨hb,hb,h1,rfl,by rw[h1];exact h2,a7a ns rfl rfl⟩
 ·cases e
omit hl in
theorem f8y {x:S} (e:a0y l x s=(false,s1)):s1=s:=by
 unfold a0y at e
 split at e
 ·cases e
 ·cases e;rfl
theorem g8k {x:S} {b:Bool} (e:a0y l x s=(b,s1)) (ns:b1z s) (lo:0<=s.at_) (hi:s.at_ < l.length):(b=true/\s.bc=0/\s1.bc=0/\s1.at_=s.at_+1/\s1.n=s.n/\s1.at_ < l.length/\b1z s1)\/(b=false/\s1=s):=by
 cases b with
 |true=>exact .inl ⟨rfl,f7m hl e ns lo hi⟩
 |false=>exact .inr ⟨rfl,f8y e⟩
theorem f8b {x:S} {b:Bool} (e:a1n l x s=(b,s1)) (ns:b1z s) (lo:0<=s.at_) (hi:s.at_ < l.length):(s.bc=0/\s1.bc=0/\s1.at_=s.at_+1/\s1.n=s.n/\s1.at_ < l.length/\b1z s1)\/(s1.bc≠0/\s1.at_=s.at_/\s1.n=s.n/\b1z s1):=by
 unfold a1n at e
 split at e
 ·rename_i c
  simp only[Bool.and_eq_true]at c
  cases e
  have hb:=d4y c.1
  obtain⟨h1,h2⟩:=c9x hl (d6s c.2) lo hi
  exact .inl ⟨hb,hb,h1,rfl,by rw[h1];exact h2,a7a ns rfl rfl⟩
 ·cases e
  exact .inr ⟨a4x (by decide),a4n,b0n,a7a ns b3r b0n⟩
theorem h0f {t:S} (e:a2c l s=(t,s1)) (ns:b1z s) (lo:0<=s.at_) (hi:s.at_ < l.length):t.length<=65536/\((s.bc=0/\s1.bc=0/\s1.at_=s.at_+1/\s1.n=s.n/\s1.at_ < l.length/\b1z s1)\/(s1.bc≠0/\s1.at_=s.at_/\s1.n=s.n/\b1z s1)):=by
 unfold a2c at e
 split at e
 ·rename_i c
  simp only[Bool.and_eq_true,decide_eq_true_eq]at c
  cases e
  have hb:=d4y c.1
  obtain⟨h1,h2⟩:=c9x hl om lo hi
  exact⟨hl.txt _,.inl ⟨hb,hb,h1,rfl,by rw[h1];exact h2,a7a ns rfl rfl⟩⟩
 ·cases e
  exact⟨Nat.zero_le _,.inr ⟨a4x (by decide),a4n,b0n,a7a ns b3r b0n⟩⟩
omit hl in
theorem h4o {c:Int} {b:Bool} (e:a9c l c s=(b,s1)) (ns:b1z s):s1.at_=s.at_/\s1.n=s.n/\b1z s1/\((b=true/\s.bc=0/\s1.bc=0)\/(b=false/\s1.bc≠0)):=by
 have h1:(a4f l c s).at_=s.at_/\(a4f l c s).n=s.n/\(a4f l c s).ns=s.ns/\((a4f l c s).bc=0->s.bc=0):=by
  unfold a4f
  split
  ·exact⟨a4n,b0n,b3r,fun h=>absurd h (a4x (by decide))⟩
  ·exact⟨rfl,rfl,rfl,id⟩
 have h2:(b1n l (a4f l c s)).at_=s.at_/\(b1n l (a4f l c s)).n=s.n/\(b1n l (a4f l c s)).ns=s.ns/\((b1n l (a4f l c s)).bc=0->s.bc=0):=by
  unfold b1n
  split
  ·exact⟨a4n.trans h1.1,b0n.trans h1.2.1,b3r.trans h1.2.2.1,fun h=>absurd h (a4x (by decide))⟩
  ·exact h1
 unfold a9c at e
 cases e
 refine⟨h2.1,h2.2.1,a7a ns h2.2.2.1 h2.2.1,?_⟩
 cases hb:okB (d0e (b1n l (a4f l c s)))with
 |true=>exact .inl ⟨rfl,h2.2.2.2 (d4y hb),d4y hb⟩
 |false=>exact .inr ⟨rfl,e3z hb⟩
theorem e2i {fr:Int} {x:N} {m:Nat} (ns:b1z s) (hn:s.n < 1000000) (h0:0<=fr) (h1:fr<=s.at_) (hi:s.at_ < l.length) (kk:c7i (s.n+1) x.ks m) (hm:m<=1000000) (ht:x.t.length<=1000000) (hv:I64 x.v):∃ i s1,a3x l fr x s=some (i,s1)/\s1.at_=s.at_/\s1.bc=s.bc/\s1.n=s.n+1/\b1z s1/\0<=i/\i.toNat<=s1.n:=by
 have hlen:=hl.len
 have hw:w (s.at_ - 1)=s.at_ - 1:=a1k om
 have c:s.ns.length=s.n/\s.n < 1000000/\okF l fr/\(fr < s.at_->okF l (w (s.at_ - 1))):=⟨ns.1,hn,by unfold okF;simp;omega,fun _=>by unfold okF;rw[hw];simp;omega⟩
 unfold a3x
 rw[if_pos c]
 refine⟨_,_,rfl,rfl,rfl,rfl,?_,?_,?_⟩
 ·obtain⟨k1,il,k2,k3⟩:=kk
  have hf:∀ i,I64 ((l.getD i default).f:Int)/\I64 ((l.getD i default).e:Int):=fun i=>by
    have:=hl.pos i
    unfold I64;omega
  refine f2l (x:=⟨x.k,x.t,x.v,il,_,_⟩) ns (by rw[show(N.D x _ _)=Nd.D ⟨x.k,x.t,x.v,il,_,_⟩from by unfold N.D Nd.D;rw[k2]]) rfl ⟨k3,by rw[<-List.length_map («as»:=il) (f:=D.int .i64),<-k2,k1];exact hm,ht,hv,(hf _).1,?_⟩
  show I64 (if fr < s.at_ then _ else _)
  split
  ·exact(hf _).2
  ·unfold I64;omega
 ·show 0<=w _
  rw[show w (((s.n+1:Nat):Int) - 1)=(s.n:Int)from(a1k om).trans om];omega
 ·show(w _).toNat<=s.n+1
  rw[show w (((s.n+1:Nat):Int) - 1)=(s.n:Int)from(a1k om).trans om];omega
end
def cQ:Q->Nat
 | .typ| .typed _| .param| .field| .variant| .params _ _| .fields _ _| .block| .let_ _| .match_| .pattern| .patterned _| .named _ _| .inits _| .init=>1
 | .function| .item| .items _| .branch| .cond| .expr _| .row _ _| .operand _| .prefix_ _| .postfix_ _| .primary _| .args _=>2
 | .stmts _| .stmt| .blocky _| .arms _| .arm=>3
 | .parts _| .rows .. | .gets .. =>0
def dQ:Q->Nat
 | .typ| .typed _| .param| .field| .variant| .params _ _| .fields _ _| .parts _| .pattern| .patterned _=>12
 | .function| .item| .stmt| .blocky _| .arm=>10
 | .items _=>8
 | .stmts _| .arms _=>7
 |_=>11
def nQ:Q->Nat
 | .block=>1
 |_=>0
def pQ:Q->Nat
 | .params _ _| .fields _ _| .items _| .stmts _| .arms _| .rows .. | .gets .. | .args _| .inits _=>0
 |_=>1
def rQ:Q->Int
 | .typ| .params _ _| .fields _ _| .item| .branch| .inits _| .pattern=>1
 | .items _| .blocky _| .primary _| .arm=>2
 | .postfix_ _| .arms _=>3
 | .prefix_ _=>4
 | .operand _=>5
 | .row r _=>10 - r
 | .expr _=>11
 | .stmt| .args _=>12
 | .stmts _=>13
 |_=>0
def oQ:Q->Nat
 | .typ| .block| .pattern| .expr _| .operand _| .params _ _| .fields _ _| .items _| .stmts _| .arms _| .rows .. | .gets .. | .args _| .inits _=>0
 |_=>1
def Ext (l:List TokQ) (s:PS):Q->Prop
 | .typed fr| .let_ fr| .blocky fr| .patterned fr| .named fr _=>0<=fr/\fr<=s.at_
 | .params ks v=>(c7i s.n ks.l ks.n/\(ks.n:Int)<=s.at_+3/\(s.bc=0->(ks.n:Int)<=s.at_+2))/\I64 v
 | .fields _ ks| .items ks| .stmts ks| .arms ks| .args ks| .inits ks=>c7i s.n ks.l ks.n/\(ks.n:Int)<=s.at_+3/\(s.bc=0->(ks.n:Int)<=s.at_+2)
 | .parts _=>(now l s).k≠5
 | .row r _=>0<=r/\r<=5
 | .rows r _ fr a=>(0<=r/\r<=4)/\(0<=fr/\fr<=s.at_)/\0<=a/\a.toNat<=s.n
 | .gets fr a=>(0<=fr/\fr<=s.at_)/\0<=a/\a.toNat<=s.n
 |_=>True
structure Pre (l:List TokQ) (q:Q) (s:PS):Prop where
 lo:0<=s.at_
 hi:s.at_ < l.length
 ns:b1z s
 bd:(s.bc=0->(s.n:Int)+15* (l.length - s.at_)+cQ q<=999990)/\(s.bc≠0->(s.n:Int)+15* (l.length - s.at_)+nQ q<=999990)
 ok:oQ q=1->s.bc=0
 ex:Ext l s q
def Num (c d n p:Nat) (s s1:PS):Prop:=s.at_<=s1.at_/\s.n<=s1.n/\(s.bc≠0->s1.bc≠0/\s1.at_=s.at_/\s1.n<=s.n+n)/\(s.bc=0->p=1->s.at_ < s1.at_\/s1.bc≠0)/\(s.bc=0->(s1.at_=s.at_/\s1.n<=s.n+c)\/(s.at_ < s1.at_/\(s1.n:Int)+d<=s.n+15* (s1.at_ - s.at_)))
structure Post (l:List TokQ) (q:Q) (s:PS) (r:R) (s1:PS):Prop where
 num:Num (cQ q) (dQ q) (nQ q) (pQ q) s s1
 hi:s1.at_ < l.length
 ns:b1z s1
 ri:0<=r.i/\r.i.toNat<=s1.n
 rk:c7i s1.n r.ks.l r.ks.n/\(r.ks.n:Int)<=s1.at_+3
 rv:I64 r.v
def G (l:List TokQ) (q:Q) (s:PS) (x:M):Prop:=∃ r s1,x=some (r,s1)/\Post l q s r s1
def Mu (l:List TokQ) (q:Q) (s:PS) (n:Nat):Prop:=(s.bc=0->64* ((l.length:Int) - s.at_)+1+rQ q < n)/\(s.bc≠0->64* ((l.length:Int) - s.at_) < n)
def IHt (l:List TokQ) (n:Nat):Prop:=∀ q s,Pre l q s->Mu l q s n->G l q s (go l n q s)
section
variable {l:List TokQ} {n:Nat} (IH:IHt l n) {q:Q} {s s1:PS} {r:R}
theorem f2n (h:Post l q s r s1) (lo:0<=s.at_):okS l s1=true:=by
 have:=h.hi
 have:=h.num.1
 unfold okS;simp;omega
include IH
theorem g2z (e:cl l (go l n) q s=some (r,s1)) (p:Pre l q s) (m:Mu l q s n):Post l q s r s1:=by
 obtain⟨r',s',h1,h2⟩:=IH q s p m
 unfold cl at e
 rw[h1]at e
 simp only[f2n h2 p.lo,if_true,Option.some.injEq,Prod.mk.injEq]at e
 obtain⟨rfl,rfl⟩:=e
 exact h2
theorem g1l (e:cl l (go l n) q s=none) (p:Pre l q s) (m:Mu l q s n):False:=by
 obtain⟨r',s',h1,h2⟩:=IH q s p m
 unfold cl at e
 rw[h1]at e
 simp only[f2n h2 p.lo,if_true]at e
 cases e
theorem h8w (p:Pre l q s) (m:Mu l q s n):cl l (go l n) q s=go l n q s:=by
 obtain⟨r',s',h1,h2⟩:=IH q s p m
 unfold cl
 rw[h1]
 simp only[f2n h2 p.lo,if_true]
end
end Go.Vm.Pa
namespace Go.Vm.Pa
open Go.Vm.Lex (TokQ)
open Go.Vm.Tp (Nd I64)
section
variable {l:List TokQ} (hl:TOk l) {n:Nat} (IH:IHt l n) {q:Q} {s s1:PS} {r:R}
theorem b5m:I64 0:=by unfold I64;omega
theorem e5m:I64 1:=by unfold I64;omega
theorem c9k (n:Int):I64 (w n):=by
 unfold I64 w
 simp only[IntKind.wrap,IntKind.bits,IntKind.signed]
 simp
 omega
theorem leaf {s0:PS} (hi:s1.at_ < l.length:=by first|omega|assumption|(simp only[down];omega)) (ns:b1z s1:=by first|assumption|exact a7a (by assumption) rfl rfl) (ri:0<=r.i/\r.i.toNat<=s1.n:=by first|assumption|exact⟨Int.le_refl _,Nat.zero_le _⟩|(constructor<;>first|assumption|(simp only[rI,rK,down];omega)))
    (rk:c7i s1.n r.ks.l r.ks.n/\(r.ks.n:Int)<=s1.at_+3:=by first|assumption|exact⟨by first|assumption|exact a6v _|exact a2h (by assumption) om ⟨om,om⟩,by first|omega|(simp only[rK,rI,push,K.o,down];omega)⟩) (rv:I64 r.v:=by first|assumption|exact b5m|exact e5m|exact c9k _|exact TOk.val (by assumption) _)
    (num:Num (cQ q) (dQ q) (nQ q) (pQ q) s0 s1:=by simp only[Num,cQ,dQ,nQ,pQ,down,true_imp_iff,false_imp_iff,imp_true_iff,and_true,true_and,Nat.zero_ne_one];omega):G l q s0 (some (r,s1)):=⟨r,s1,rfl,num,hi,ns,ri,rk,rv⟩
include hl in
theorem f3u {s0:PS} {fr k v:Int} {t:S} {ks:List D} {m:Nat} (kk:c7i (s.n+1) ks m) (hm:m<=1000000:=by first|decide|omega|(simp only[push];omega)) (hn:s.n < 1000000:=by omega) (h0:0<=fr:=by omega) (h1:fr<=s.at_:=by omega) (hi:s.at_ < l.length:=by omega) (ns:b1z s:=by assumption) (ht:t.length<=1000000:=by first|exact Nat.zero_le _|omega|(simp only[List.length_append,List.length_cons,List.length_nil];omega)) (hv:I64 v:=by first|assumption|exact b5m|exact e5m|exact c9k _|exact TOk.val (by assumption) _)
    (N:∀ s1:PS,s1.at_=s.at_->s1.n=s.n+1->s1.bc=s.bc->Num (cQ q) (dQ q) (nQ q) (pQ q) s0 s1:=by intro s1 _ _ _;simp only[Num,cQ,dQ,nQ,pQ,true_imp_iff,false_imp_iff,imp_true_iff,and_true,true_and,Nat.zero_ne_one];omega):G l q s0 (mk l fr k t v ks s):=by
  obtain⟨i,s1,e,h2,h3,h4,h5,h6⟩:=e2i hl (x:=⟨k,t,v,ks⟩) ns hn h0 h1 hi kk hm ht hv
  unfold mk
  rw[e]
  exact⟨_,_,rfl,N s1 h2 h4 h3,by rw[h2];exact hi,h5,h6,⟨a6v _,by show(0:Int)<=_;omega⟩,b5m⟩
include hl in
theorem f7r {s0:PS} {fr k v:Int} {t:S} {ks:List D} {m:Nat} (kk:c7i (s.n+1) ks m) (hm:m<=1000000:=by first|decide|omega|(simp only[push];omega)) (hn:s.n < 1000000:=by omega) (h0:0<=fr:=by omega) (h1:fr<=s.at_:=by omega) (hi:s.at_ < l.length:=by omega) (ns:b1z s:=by assumption) (ht:t.length<=1000000:=by first|exact Nat.zero_le _|omega|(simp only[List.length_append,List.length_cons,List.length_nil];omega)) (hv:I64 v:=by first|assumption|exact b5m|exact e5m|exact c9k _|exact TOk.val (by assumption) _)
    (N:∀ s1:PS,s1.at_=s.at_->s1.n=s.n+1->s1.bc=s.bc->Num (cQ q) (dQ q) (nQ q) (pQ q) s0 s1:=by intro s1 _ _ _;simp only[Num,cQ,dQ,nQ,pQ,true_imp_iff,false_imp_iff,imp_true_iff,and_true,true_and,Nat.zero_ne_one];omega):G l q s0 (mk l fr k t v ks (down s)):=
  f3u hl (s:=down s) kk hm hn h0 h1 hi (a7a ns rfl rfl) ht hv N
theorem e1s (lo:0<=s.at_:=by omega) (hi:s.at_ < l.length:=by omega) (ns:b1z s:=by assumption) (bd:(s.bc=0->(s.n:Int)+15* (l.length - s.at_)+cQ q<=999990)/\(s.bc≠0->(s.n:Int)+15* (l.length - s.at_)+nQ q<=999990):=by simp only[cQ,nQ];omega) (ok:oQ q=1->s.bc=0:=by first|(intro h;cases h;done)|(intro _;omega)) (ex:Ext l s q):Pre l q s:=⟨lo,hi,ns,bd,ok,ex⟩
theorem f2v (h1:s.bc=0->64* ((l.length:Int) - s.at_)+1+rQ q < n:=by simp only[rQ];omega) (h2:s.bc≠0->64* ((l.length:Int) - s.at_) < n:=by omega):Mu l q s n:=⟨h1,h2⟩
theorem i2v {m:Nat} {ks:K} (h:c7i m ks.l ks.n) (hn:ks.n < 1000000) (e:okK ks=false):False:=by
 unfold okK at e
 simp only[h.1,decide_true,Bool.true_and,decide_eq_false_iff_not]at e
 exact e hn
theorem i2f {m:Nat} {ks:K} {i:Int} (h:c7i m ks.l ks.n) (hn:ks.n+1 < 1000000) (e:okK (push ks i)=false):False:=by
 unfold okK push at e
 simp only[List.length_append,List.length_singleton,h.1,decide_true,Bool.true_and,decide_eq_false_iff_not]at e
 exact e hn
theorem h3t {m:Nat} {ks:K} {i j:Int} (h:c7i m ks.l ks.n) (hn:ks.n+2 < 1000000) (e:okK (push (push ks i) j)=false):False:=by
 unfold okK push at e
 simp only[List.length_append,List.length_singleton,h.1,decide_true,Bool.true_and,decide_eq_false_iff_not]at e
 exact e hn
theorem i2q (e:okS l s=false) (lo:0<=s.at_) (hi:s.at_ < l.length):False:=by
 unfold okS at e
 rw[decide_eq_true lo,decide_eq_true hi]at e
 cases e
theorem f8v {q':Q} {s0:PS} {x:M} (h:G l q' s x) (N:∀ s1:PS,Num (cQ q') (dQ q') (nQ q') (pQ q') s s1->Num (cQ q) (dQ q) (nQ q) (pQ q) s0 s1:=by intro s1 h;simp only[Num,cQ,dQ,nQ,pQ,true_imp_iff,false_imp_iff,imp_true_iff,and_true,true_and,Nat.zero_ne_one]at h⊢;omega):G l q s0 x:=by
  obtain⟨r,s1,e,P⟩:=h
  exact⟨r,s1,e,N s1 P.num,P.hi,P.ns,P.ri,P.rk,P.rv⟩
theorem cl_g {q':Q} {s0:PS} (IH:IHt l n) (p:Pre l q' s) (m:Mu l q' s n) (N:∀ s1:PS,Num (cQ q') (dQ q') (nQ q') (pQ q') s s1->Num (cQ q) (dQ q) (nQ q) (pQ q) s0 s1:=by intro s1 h;simp only[Num,cQ,dQ,nQ,pQ,true_imp_iff,false_imp_iff,imp_true_iff,and_true,true_and,Nat.zero_ne_one]at h⊢;omega):G l q s0 (cl l (go l n) q' s):=by
  rw[h8w IH p m];exact f8v (IH _ _ p m) N
theorem g5p {k:Int} (h:b7y l k s≠[]):(now l s).k≠5:=by
 unfold b7y at h
 cases hf:(a8a k).find? (fun x=>okB s && isS l s x)with
 |none=>rw[hf]at h;exact absurd rfl h
 |some x=>
  have:=List.find?_some hf
  simp only[Bool.and_eq_true]at this
  exact d6s this.2
end
section
variable {c d n:Nat} {s s1:PS}
theorem g8m (N:Num c d n 1 s s1) (hb:s.bc=0):(s1.bc=0/\s.at_ < s1.at_/\(s1.n:Int)+d<=s.n+15* (s1.at_ - s.at_)/\s.n<=s1.n)\/(s1.bc≠0/\s.at_ < s1.at_/\(s1.n:Int)+d<=s.n+15* (s1.at_ - s.at_)/\s.n<=s1.n)\/(s1.bc≠0/\s1.at_=s.at_/\s1.n<=s.n+c/\s.n<=s1.n):=by
 obtain⟨h1,h2,h3,h4,h5⟩:=N
 have h4:=h4 hb rfl
 have h5:=h5 hb
 omega
theorem h8u (N:Num c d n 0 s s1) (hb:s.bc=0):(s1.bc=0/\s.at_ < s1.at_/\(s1.n:Int)+d<=s.n+15* (s1.at_ - s.at_)/\s.n<=s1.n)\/(s1.bc≠0/\s.at_ < s1.at_/\(s1.n:Int)+d<=s.n+15* (s1.at_ - s.at_)/\s.n<=s1.n)\/(s1.bc≠0/\s1.at_=s.at_/\s1.n<=s.n+c/\s.n<=s1.n)\/(s1.bc=0/\s1.at_=s.at_/\s1.n<=s.n+c/\s.n<=s1.n):=by
 obtain⟨h1,h2,h3,h4,h5⟩:=N
 have h5:=h5 hb
 omega
theorem g0b {p:Nat} (N:Num c d n p s s1) (hb:s.bc≠0):s1.bc≠0/\s1.at_=s.at_/\s1.n<=s.n+n/\s.n<=s1.n:=by
 obtain⟨h1,h2,h3,h4,h5⟩:=N
 have h3:=h3 hb
 omega
end
section
variable {l:List TokQ} (hl:TOk l) {q:Q} {s s1:PS}
include hl
theorem c1t {fr:Int} {x:N} {m:Nat} (e:a3x l fr x s=none) (kk:c7i (s.n+1) x.ks m) (hm:m<=1000000:=by first|decide|omega|(simp only[push];omega)) (hn:s.n < 1000000:=by omega) (h0:0<=fr:=by omega) (h1:fr<=s.at_:=by omega) (hi:s.at_ < l.length:=by omega) (ns:b1z s:=by assumption) (ht:x.t.length<=1000000:=by first|exact Nat.zero_le _|(dsimp only;omega)|(dsimp only;assumption)) (hv:I64 x.v:=by first|assumption|exact b5m|exact e5m|exact c9k _|exact TOk.val (by assumption) _):False:=by
  obtain⟨i,s1,e2,_⟩:=e2i hl (x:=x) ns hn h0 h1 hi kk hm ht hv
  rw[e]at e2;cases e2
theorem b6p {fr i:Int} {x:N} {m:Nat} (e:a3x l fr x s=some (i,s1)) (kk:c7i (s.n+1) x.ks m) (hm:m<=1000000:=by first|decide|omega|(simp only[push];omega)) (hn:s.n < 1000000:=by omega) (h0:0<=fr:=by omega) (h1:fr<=s.at_:=by omega) (hi:s.at_ < l.length:=by omega) (ns:b1z s:=by assumption) (ht:x.t.length<=1000000:=by first|exact Nat.zero_le _|(dsimp only;omega)|(dsimp only;assumption)) (hv:I64 x.v:=by first|assumption|exact b5m|exact e5m|exact c9k _|exact TOk.val (by assumption) _):s1.at_=s.at_/\s1.bc=s.bc/\s1.n=s.n+1/\b1z s1/\0<=i/\i.toNat<=s1.n:=by
  obtain⟨j,s2,e2,h⟩:=e2i hl (x:=x) ns hn h0 h1 hi kk hm ht hv
  rw[e]at e2;cases e2;exact h
theorem g4m (lo:0<=s.at_) (hi:s.at_ < l.length) (ns:b1z s) (h5:(now l s).k≠5):(adv s).at_=s.at_+1/\(adv s).at_ < l.length/\(adv s).n=s.n/\(adv s).bc=s.bc/\b1z (adv s):=by
 obtain⟨h1,h2⟩:=c9x hl h5 lo hi
 exact⟨h1,by rw[h1];exact h2,rfl,rfl,a7a ns rfl rfl⟩
omit hl in
theorem k3_t (e:decide ((now l s).k=3)=true):(now l s).k≠5:=by have:=of_decide_eq_true e;omega
omit hl in
theorem k3_n (e:(!decide ((now l s).k=3))=false):(now l s).k≠5:=by
 have:(now l s).k=3:=by simpa using e
 omega
omit hl in
theorem sg_n {k:Int} (e:(!decide (b7y l k s=[]))=true):(now l s).k≠5:=g5p (k:=k) (by simpa using e)
omit hl in
theorem h3k {c:Int} (ns:b1z s) (hc:c≠0):(a2n l c s).bc≠0/\(a2n l c s).at_=s.at_/\(a2n l c s).n=s.n/\b1z (a2n l c s):=⟨a4x hc,a4n,b0n,a7a ns b3r b0n⟩
end
theorem f6s (l:List TokQ) (k:Int) (s:PS):(b7y l k s).length<=1000000:=by
 unfold b7y
 cases hf:(a8a k).find? (fun x=>okB s && isS l s x)with
 |none=>exact Nat.zero_le _
 |some x=>
  have hm:=List.mem_of_find?_eq_some hf
  have:∀ y∈a8a k,y.length<=1000000:=by unfold a8a;(repeat' split)<;>decide
  exact this x hm
section
variable {l:List TokQ} (hl:TOk l) {q:Q} {s s1:PS}
include hl
omit hl in
theorem g2f {t:S} {c:Int} (e:a2c l (a2n l c s)=(t,s1)) (ns:b1z s) (hc:c≠0):t.length<=65536/\s1.bc≠0/\s1.at_=s.at_/\s1.n=s.n/\b1z s1:=by
 have hb:(a2n l c s).bc≠0:=a4x hc
 unfold a2c at e
 rw[show okB (a2n l c s)=false from by unfold okB;exact decide_eq_false hb]at e
 cases e
 exact⟨Nat.zero_le _,a4x (by decide),a4n.trans a4n,b0n.trans b0n,a7a ns (b3r.trans b3r) (b0n.trans b0n)⟩
omit hl in
theorem h1n {s0:PS} {c:Int} (hc:c≠0:=by decide) (hi:s.at_ < l.length:=by omega) (ns:b1z s:=by assumption) (N:∀ s1:PS,s1.bc≠0->s1.at_=s.at_->s1.n=s.n->Num (cQ q) (dQ q) (nQ q) (pQ q) s0 s1:=by intro s1 _ _ _;simp only[Num,cQ,dQ,nQ,pQ,true_imp_iff,false_imp_iff,imp_true_iff,and_true,true_and,Nat.zero_ne_one];omega) (lo:0<=s.at_:=by omega):G l q s0 (some (rI 0,a2n l c s)):=
  ⟨_,_,rfl,N _ (a4x hc) a4n b0n,by rw[a4n];exact hi,a7a ns b3r b0n,⟨Int.le_refl _,Nat.zero_le _⟩,⟨a6v _,by rw[a4n];show(0:Int)<=_;omega⟩,b5m⟩
theorem c2d {s0:PS} {fr:Int} {x:N} {m:Nat} (kk:c7i (s.n+1) x.ks m) (hm:m<=1000000:=by first|decide|omega|(simp only[push];omega)) (hn:s.n < 1000000:=by omega) (h0:0<=fr:=by omega) (h1:fr<=s.at_:=by omega) (lo:0<=s.at_:=by omega) (hi:s.at_ < l.length:=by omega) (ns:b1z s:=by assumption) (ht:x.t.length<=1000000:=by first|exact Nat.zero_le _|(dsimp only;omega)) (hv:Tp.I64 x.v:=by first|assumption|exact b5m|exact e5m)
    (N:∀ s1:PS,s1.n=s.n+1->((s.bc=0/\s1.bc=0/\s1.at_=s.at_+1)\/(s1.bc≠0/\s1.at_=s.at_))->Num (cQ q) (dQ q) (nQ q) (pQ q) s0 s1:=by intro s1 _ _;simp only[Num,cQ,dQ,nQ,pQ,true_imp_iff,false_imp_iff,imp_true_iff,and_true,true_and,Nat.zero_ne_one];omega):G l q s0 (a8x l fr x s):=by
  obtain⟨i,s2,e,h2,h3,h4,h5,h6⟩:=e2i hl ns hn h0 h1 hi kk hm ht hv
  unfold a8x b0k
  rw[e]
  obtain⟨⟨b,s3⟩,e3⟩:∃ y,a1n l [59] s2=y:=⟨_,rfl⟩
  have f:=f8b hl e3 h5 om om
  simp only[e3]
  refine⟨_,_,rfl,N s3 (by rcases f with⟨_,_,_,f,_⟩|⟨_,_,f,_⟩<;>omega) (by rcases f with⟨g1,g2,g3,_⟩|⟨g1,g2,_⟩<;>omega),by rcases f with⟨_,_,_,_,g,_⟩|⟨_,g,_⟩<;>omega,by rcases f with⟨_,_,_,_,_,g⟩|⟨_,_,_,g⟩<;>exact g,?_,⟨a6v _,?_⟩,b5m⟩
  ·refine⟨h6.1,?_⟩
   show i.toNat<=_
   rcases f with⟨_,_,_,g,_⟩|⟨_,_,g,_⟩<;>omega
  ·show(0:Int)<=_
   rcases f with⟨_,_,g,_⟩|⟨_,g,_⟩<;>omega
omit hl in
theorem un_n (e:¬(s.ns.length=s.n/\s.n < 1000000/\okF l (w (s.at_ - 1))=true)) (ns:b1z s) (hn:s.n < 1000000) (lo:1<=s.at_) (hi:s.at_ < l.length) (hlen:l.length<=65537):False:=by
 refine e ⟨ns.1,hn,?_⟩
 have:w (s.at_ - 1)=s.at_ - 1:=a1k om
 unfold okF;rw[this];simp;omega
theorem un_g (e:s.ns.length=s.n/\s.n < 1000000/\okF l (w (s.at_ - 1))=true) (ns:b1z s):∃ s7:PS,({s with n:=s.n+1,ns:=s.ns++[N.D ⟨12,[],0,[]⟩ (l.getD (w (s.at_ - 1)).toNat default).e (l.getD (w (s.at_ - 1)).toNat default).e]}:PS)=s7/\s7.at_=s.at_/\s7.bc=s.bc/\s7.n=s.n+1/\b1z s7/\w (((s.n+1:Nat):Int) - 1)=s.n:=by
 have hf:∀ i,Tp.I64 ((l.getD i default).e:Int):=fun i=>by
   have:=hl.pos i
   unfold Tp.I64;omega
 exact⟨_,rfl,rfl,rfl,rfl,f2l (x:=⟨12,[],0,[],_,_⟩) ns rfl rfl ⟨fun k hk=>(by cases hk),Nat.zero_le _,Nat.zero_le _,b5m,hf _,hf _⟩,(a1k om).trans om⟩
end
end Go.Vm.Pa
namespace Go.Vm.Pa
open Go.Vm.Lex (TokQ)
open Go.Vm.Tp (Nd I64)
theorem b3x {P:Prop} (h:P:=by
  repeat' (first
      |(first
       |((with_reducible show G _ _ _ none);exfalso;omega)
       |((with_reducible show G _ _ _ (some (_,a2n _ _ _)));exact h1n)
       |((with_reducible show G _ _ _ (a8x _ _ _ _));first|exact c2d (by assumption) (a6v _)|exact c2d (by assumption) (b1y ⟨om,om⟩)|exact c2d (by assumption) (d4n ⟨om,om⟩ ⟨om,om⟩)|exact c2d (by assumption) (a7j ⟨om,om⟩ ⟨om,om⟩ ⟨om,om⟩)|exact c2d (by assumption) (c1g (by assumption) om)|exact c2d (by assumption) (a7j ⟨om,om⟩ ⟨om,om⟩ ⟨by decide,by decide⟩)|exact c2d (by assumption) (a2h (by assumption) om ⟨om,om⟩)|exact c2d (by assumption) (a2h (a2h (by assumption) om ⟨om,om⟩) (Nat.le_refl _) ⟨om,om⟩)|fail)
       |((with_reducible show G _ _ _ (some _));first|exact leaf|(have f:=h3k (l:=l) (c:=120) (by assumption) (by decide);obtain⟨_,_,_,_⟩:=f;exact leaf)|fail)
       |((with_reducible show G _ _ _ (mk _ _ _ _ _ _ (down _)));first|exact f7r (by assumption) (a6v _)|exact f7r (by assumption) (b1y ⟨om,om⟩)|exact f7r (by assumption) (d4n ⟨om,om⟩ ⟨om,om⟩)|exact f7r (by assumption) (a7j ⟨om,om⟩ ⟨om,om⟩ ⟨om,om⟩)|exact f7r (by assumption) (c1g (by assumption) om)|exact f7r (by assumption) (a7j ⟨om,om⟩ ⟨om,om⟩ ⟨by decide,by decide⟩)|exact f7r (by assumption) (a2h (by assumption) om ⟨om,om⟩)|exact f7r (by assumption) (a2h (a2h (by assumption) om ⟨om,om⟩) (Nat.le_refl _) ⟨om,om⟩)|fail)
       |((with_reducible show G _ _ _ (mk _ _ _ _ _ _ _));first|exact f3u (by assumption) (a6v _)|exact f3u (by assumption) (b1y ⟨om,om⟩)|exact f3u (by assumption) (d4n ⟨om,om⟩ ⟨om,om⟩)|exact f3u (by assumption) (a7j ⟨om,om⟩ ⟨om,om⟩ ⟨om,om⟩)|exact f3u (by assumption) (c1g (by assumption) om)|exact f3u (by assumption) (a7j ⟨om,om⟩ ⟨om,om⟩ ⟨by decide,by decide⟩)|exact f3u (by assumption) (a2h (by assumption) om ⟨om,om⟩)|exact f3u (by assumption) (a2h (a2h (by assumption) om ⟨om,om⟩) (Nat.le_refl _) ⟨om,om⟩)|fail)
       |((with_reducible show G _ _ _ (go _ _ _ _));exact f8v (‹IHt _ _› _ _ (e1s (ex:=(by first|trivial|assumption|exact⟨om,om⟩|exact⟨⟨om,om⟩,om,om⟩|exact⟨⟨om,om⟩,⟨om,om⟩,om,om⟩|exact⟨by first|assumption|exact a6v _|exact b1y ⟨om,om⟩|exact a2h (by assumption) om ⟨om,om⟩,by first|omega|(simp only[push,K.o];omega),by first|omega|(simp only[push,K.o];omega)⟩|exact⟨(by exact⟨by first|assumption|exact a6v _|exact b1y ⟨om,om⟩|exact a2h (by assumption) om ⟨om,om⟩,by first|omega|(simp only[push,K.o];omega),by first|omega|(simp only[push,K.o];omega)⟩),by first|assumption|exact c9k _|exact b5m⟩))) f2v))
       |((with_reducible show G _ _ _ (cl _ _ _ _));exact cl_g (by assumption) (e1s (ex:=(by first|trivial|assumption|exact⟨om,om⟩|exact⟨⟨om,om⟩,om,om⟩|exact⟨⟨om,om⟩,⟨om,om⟩,om,om⟩|exact⟨by first|assumption|exact a6v _|exact b1y ⟨om,om⟩|exact a2h (by assumption) om ⟨om,om⟩,by first|omega|(simp only[push,K.o];omega),by first|omega|(simp only[push,K.o];omega)⟩|exact⟨(by exact⟨by first|assumption|exact a6v _|exact b1y ⟨om,om⟩|exact a2h (by assumption) om ⟨om,om⟩,by first|omega|(simp only[push,K.o];omega),by first|omega|(simp only[push,K.o];omega)⟩),by first|assumption|exact c9k _|exact b5m⟩))) f2v))
      |(split<;>first
       |(rename_i e;have f:=f7m (by assumption) e (by assumption) om om;obtain⟨_,_,_,_,_,_⟩:=f;clear e)
       |(rename_i e;have f:=f8y e;subst f;clear e)
       |(rename_i e;have f:=g8k (by assumption) e (by assumption) om om;rcases f with⟨c,_,_,_,_,_,_⟩|⟨c,c2⟩<;>subst c<;>(try subst c2)<;>clear e)
       |(rename_i e;have f:=f8b (by assumption) e (by assumption) om om;rcases f with⟨_,_,_,_,_,_⟩|⟨_,_,_,_⟩<;>clear e<;>try omega)
       |(rename_i e;have f:=g2f e (by assumption) (by decide);obtain⟨_,_,_,_,_⟩:=f;clear e)
       |(rename_i e;have f:=h0f (by assumption) e (by assumption) om om;obtain⟨_,⟨_,_,_,_,_,_⟩|⟨_,_,_,_⟩⟩:=f<;>clear e<;>try omega)
       |(rename_i e;have f:=h4o e (by assumption);obtain⟨_,_,_,⟨_,_,_⟩|⟨_,_⟩⟩:=f<;>first|(rename_i c _;cases c;done)|(rename_i c _ _;cases c;done)|clear e)
       |(rename_i e;exact(g1l (by assumption) e (e1s (ex:=(by first|trivial|assumption|exact⟨om,om⟩|exact⟨⟨om,om⟩,om,om⟩|exact⟨⟨om,om⟩,⟨om,om⟩,om,om⟩|exact⟨by first|assumption|exact a6v _|exact b1y ⟨om,om⟩|exact a2h (by assumption) om ⟨om,om⟩,by first|omega|(simp only[push,K.o];omega),by first|omega|(simp only[push,K.o];omega)⟩|exact⟨(by exact⟨by first|assumption|exact a6v _|exact b1y ⟨om,om⟩|exact a2h (by assumption) om ⟨om,om⟩,by first|omega|(simp only[push,K.o];omega),by first|omega|(simp only[push,K.o];omega)⟩),by first|assumption|exact c9k _|exact b5m⟩))) f2v).elim)
       |(rename_i e;have f:=g2z (by assumption) e (e1s (ex:=(by first|trivial|assumption|exact⟨om,om⟩|exact⟨⟨om,om⟩,om,om⟩|exact⟨⟨om,om⟩,⟨om,om⟩,om,om⟩|exact⟨by first|assumption|exact a6v _|exact b1y ⟨om,om⟩|exact a2h (by assumption) om ⟨om,om⟩,by first|omega|(simp only[push,K.o];omega),by first|omega|(simp only[push,K.o];omega)⟩|exact⟨(by exact⟨by first|assumption|exact a6v _|exact b1y ⟨om,om⟩|exact a2h (by assumption) om ⟨om,om⟩,by first|omega|(simp only[push,K.o];omega),by first|omega|(simp only[push,K.o];omega)⟩),by first|assumption|exact c9k _|exact b5m⟩))) f2v;obtain⟨N,_,_,_,⟨_,_⟩,_⟩:=f;simp only[cQ,dQ,nQ,pQ]at N;clear e;first|(have f:=g8m N (by assumption);rcases f with⟨_,_,_,_⟩|⟨_,_,_,_⟩|⟨_,_,_,_⟩)|(have f:=h8u N (by assumption);rcases f with⟨_,_,_,_⟩|⟨_,_,_,_⟩|⟨_,_,_,_⟩|⟨_,_,_,_⟩)|(have f:=g0b N (by assumption);obtain⟨_,_,_,_⟩:=f)|fail)
       |(rename_i e;first|exact(c1t (by assumption) e (a6v _)).elim|exact(c1t (by assumption) e (b1y ⟨om,om⟩)).elim|exact(c1t (by assumption) e (d4n ⟨om,om⟩ ⟨om,om⟩)).elim|exact(c1t (by assumption) e (a7j ⟨om,om⟩ ⟨om,om⟩ ⟨om,om⟩)).elim|exact(c1t (by assumption) e (c1g (by assumption) om)).elim|exact(c1t (by assumption) e (a7j ⟨om,om⟩ ⟨om,om⟩ ⟨by decide,by decide⟩)).elim|exact(c1t (by assumption) e (a2h (by assumption) om ⟨om,om⟩)).elim|exact(c1t (by assumption) e (a2h (a2h (by assumption) om ⟨om,om⟩) (Nat.le_refl _) ⟨om,om⟩)).elim|fail)
       |(rename_i e;(first|(have f:=b6p (by assumption) e (a6v _);obtain⟨_,_,_,_,_,_⟩:=f)|(have f:=b6p (by assumption) e (b1y ⟨om,om⟩);obtain⟨_,_,_,_,_,_⟩:=f)|(have f:=b6p (by assumption) e (d4n ⟨om,om⟩ ⟨om,om⟩);obtain⟨_,_,_,_,_,_⟩:=f)|(have f:=b6p (by assumption) e (a7j ⟨om,om⟩ ⟨om,om⟩ ⟨om,om⟩);obtain⟨_,_,_,_,_,_⟩:=f)|(have f:=b6p (by assumption) e (c1g (by assumption) om);obtain⟨_,_,_,_,_,_⟩:=f)|(have f:=b6p (by assumption) e (a7j ⟨om,om⟩ ⟨om,om⟩ ⟨by decide,by decide⟩);obtain⟨_,_,_,_,_,_⟩:=f)|(have f:=b6p (by assumption) e (a2h (by assumption) om ⟨om,om⟩);obtain⟨_,_,_,_,_,_⟩:=f)|(have f:=b6p (by assumption) e (a2h (a2h (by assumption) om ⟨om,om⟩) (Nat.le_refl _) ⟨om,om⟩);obtain⟨_,_,_,_,_,_⟩:=f)|fail);clear e)
       |(rename_i e;have h5:=k3_t e;have f:=g4m (by assumption) om om (by assumption) h5;obtain⟨_,_,_,_,_⟩:=f;clear e h5)
       |(rename_i e;have h5:=k3_n e;have f:=g4m (by assumption) om om (by assumption) h5;obtain⟨_,_,_,_,_⟩:=f;clear e h5)
       |(rename_i e;have h5:=sg_n e;have f:=g4m (by assumption) om om (by assumption) h5;obtain⟨_,_,_,_,_⟩:=f;clear e h5)
       |(rename_i e;exact(un_n e (by assumption) om om om (by assumption)).elim)
       |(rename_i e;have f:=un_g (by assumption) e (by assumption);obtain⟨s7,h7,_,_,_,_,h8⟩:=f;rw[h7];try rw[h8];clear h7 h8 e;have h9:s7.bc=0:=by omega)
       |(rename_i e;have:=d4y e;clear e)
       |(rename_i e;have:=e3z e;clear e)
       |(rename_i e;exact(i2v (by assumption) om e).elim)
       |(rename_i e;exact(h3t (by assumption) om e).elim)
       |(rename_i e;exact(i2f (by assumption) om e).elim)
       |(rename_i e;exact(i2q e om om).elim)
       |(rename_i e;have:=d6s e;clear e)
       |(rename_i e;have:=of_decide_eq_false e;clear e)
       |(rename_i e;clear e))
      |fail)):P:=h
end Go.Vm.Pa
