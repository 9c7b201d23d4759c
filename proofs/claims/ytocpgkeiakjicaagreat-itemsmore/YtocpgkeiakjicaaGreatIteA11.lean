import Derived.Test.YtocpgkeiakjicaaGreatTreP
import Derived.Test.YtocpgkeiakjicaaGreatIteL
set_option maxRecDepth 100000
set_option linter.unusedVariables false
set_option linter.unusedSimpArgs false
namespace Go.Vm.Pa
open Go.Vm.Lex (TokQ)
abbrev S:=List UInt8
instance:Inhabited TokQ:=⟨⟨0,[],0,0,0⟩⟩
abbrev w (n:Int):Int:=IntKind.i64.wrap n
def g2r (x:TokQ):D:= .agg [.int .i64 x.k,.str x.t,.int .i64 x.v,.int .i64 (x.f:Int),.int .i64 (x.e:Int)]
structure N where
 k:Int
 t:S
 v:Int
 ks:List D
def N.D (n:N) (f e:Int):D:= .agg [.int .i64 n.k,.str n.t,.int .i64 n.v,.sl n.ks,.int .i64 f,.int .i64 e]
structure PS where
 at_:Int
 deep:Int
 ns:List D
 n:Nat
 bc:Int
 bf:Int
 be:Int
structure K where
 l:List D
 n:Nat
def K.o:K:=⟨[],0⟩
def okK (k:K):Bool:=decide (k.l.length=k.n) && decide (k.n < 1000000)
def push (k:K) (i:Int):K:=⟨k.l++[.int .i64 i],k.n+1⟩
structure R where
 i:Int
 b:Bool
 ks:K
 v:Int
abbrev rI (i:Int):R:=⟨i,false,K.o,0⟩
abbrev rK (ks:K):R:=⟨0,false,ks,0⟩
section
variable (l:List TokQ)
def now (s:PS):TokQ:=l.getD s.at_.toNat default
def okS (s:PS):Bool:=decide (0<=s.at_) && decide (s.at_ < l.length)
def okF (fr:Int):Bool:=decide (0<=fr) && decide (fr < l.length)
def isS (s:PS) (x:S):Bool:=(decide ((now l s).k=2)||decide ((now l s).k=4)) && decide ((now l s).t=x)
def okB (s:PS):Bool:=decide (s.bc=0)
def a2n (c:Int) (s:PS):PS:=if okB s then{s with bc:=c,bf:=(now l s).f,be:=(now l s).e } else s
def adv (s:PS):PS:={s with at_:=w (s.at_+1)}
def down (s:PS):PS:={s with deep:=w (s.deep - 1)}
def a0y (x:S) (s:PS):Bool×PS:=if okB s && isS l s x then(true,adv s) else(false,s)
def a1n (x:S) (s:PS):Bool×PS:=if okB s && isS l s x then(true,adv s) else(false,a2n l 120 s)
def a2c (s:PS):S×PS:=if okB s && decide ((now l s).k=1) then((now l s).t,adv s) else([],a2n l 120 s)
def anyS (s:PS) (xs:List S):Bool:=xs.any (isS l s)
def h7u:List S:=[[105,54,52],[98,111,111,108],[40],[38],[66,111,120]]
def h4x:List S:=[[116,114,117,101],[102,97,108,115,101],[40],[66,111,120],[105,102],[109,97,116,99,104],[123],[45],[33],[42],[38]]
def patL:List S:=[[95],[116,114,117,101],[102,97,108,115,101],[45]]
def b2v (c:Int) (s:PS):Bool:=
 if c=116 then decide ((now l s).k=1)||anyS l s h7u
 else if c=101 then decide ((now l s).k=1)||decide ((now l s).k=3)||anyS l s h4x
 else if c=112 then decide ((now l s).k=1)||decide ((now l s).k=3)||anyS l s patL
 else isS l s [123]
def a4f (c:Int) (s:PS):PS:=if okB s && !b2v l c s then a2n l 120 s else s
def b1n (s:PS):PS:=if okB s && decide (100<=s.deep) then a2n l 121 s else s
def d0e (s:PS):PS:={s with deep:=w (s.deep+1)}
def a9c (c:Int) (s:PS):Bool×PS:=(okB (d0e (b1n l (a4f l c s))),d0e (b1n l (a4f l c s)))
def a3x (fr:Int) (n:N) (s:PS):Option (Int×PS):=
 if s.ns.length=s.n/\s.n < 1000000/\okF l fr/\(fr < s.at_->okF l (w (s.at_ - 1))) then
  some (w (((s.n+1:Nat):Int) - 1),{s with n:=s.n+1,ns:=s.ns++[n.D (l.getD fr.toNat default).f (if fr < s.at_ then((l.getD (w (s.at_ - 1)).toNat default).e:Int) else 0)]})
 else none
def a8a (r:Int):List S:=if r=0 then[[124,124]] else if r=1 then[[38,38]] else if r=2 then[[60],[60,61],[62],[62,61],[61,61],[33,61]] else if r=3 then[[43],[45]] else[[42],[47],[37]]
def b7y (r:Int) (s:PS):S:=((a8a r).find? fun x=>okB s && isS l s x).getD []
end
inductive Q where
 |typ|typed (fr:Int)|param|field|variant
 |params (ks:K) (v:Int)|function|fields (k:Int) (ks:K)|parts (k:Int)
 |item|items (ks:K)
 |stmts (ks:K)|block|stmt|let_ (fr:Int)|blocky (fr:Int)|branch|cond|match_|arms (ks:K)|arm
 |pattern|patterned (fr:Int)
 |expr (bare:Bool)|row (r:Int) (bare:Bool)|rows (r:Int) (bare:Bool) (fr:Int) (a:Int)
 |operand (bare:Bool)|prefix_ (bare:Bool)|postfix_ (bare:Bool)|gets (fr:Int) (a:Int)
 |primary (bare:Bool)|named (fr:Int) (bare:Bool)|args (ks:K)|inits (ks:K)|init
abbrev M:=Option (R×PS)
def one (i:Int):List D:=[.int .i64 i]
def two (i j:Int):List D:=[.int .i64 i,.int .i64 j]
section
variable (l:List TokQ) (go:Q->PS->M)
def cl (q:Q) (s:PS):M:=match go q s with|some (r,s1)=>if okS l s1 then some (r,s1) else none|none=>none
def ret (x:Option (Int×PS)):M:=match x with|some (i,s)=>some (rI i,s)|none=>none
def b0k (fr:Int) (n:N) (s:PS):M:=match a3x l fr n s with
 |none=>none
 |some (i,s1)=>match a1n l [59] s1 with|(_,s2)=>some (rI i,s2)
def a8x (fr:Int) (n:N) (s:PS):M:=match b0k l fr n s with
 |none=>none
 |some (r,s1)=>some (rI r.i,s1)
def mk (fr:Int) (k:Int) (t:S) (v:Int) (ks:List D) (s:PS):M:=ret (a3x l fr ⟨k,t,v,ks⟩ s)
def deeper (c:Int) (q:Q) (s:PS):M:=match a9c l c s with
 |(false,s1)=>some (rI 0,down s1)
 |(true,s1)=>match cl l go q s1 with|none=>none|some (a,s2)=>some (rI a.i,down s2)
def step:Q->PS->M
 | .typ,s=>deeper l go 116 (.typed s.at_) s
 | .typed fr,s=>match a0y l [105,54,52] s with
   |(true,s1)=>mk l fr 10 [] 0 [] s1
   |(false,s1)=>match a0y l [98,111,111,108] s1 with
   |(true,s2)=>mk l fr 11 [] 0 [] s2
   |(false,s2)=>match a0y l [40] s2 with
   |(true,s3)=>(match a1n l [41] s3 with|(_,s4)=>mk l fr 12 [] 0 [] s4)
   |(false,s3)=>match a0y l [38] s3 with
   |(true,s4)=>(match a0y l [109,117,116] s4 with
    |(true,s5)=>(match cl l go .typ s5 with|none=>none|some (r,s6)=>mk l fr 15 [] 0 (one r.i) s6)
    |(false,s5)=>match cl l go .typ s5 with|none=>none|some (r,s6)=>mk l fr 14 [] 0 (one r.i) s6)
   |(false,s4)=>match a0y l [66,111,120] s4 with
   |(true,s5)=>(match a1n l [60] s5 with|(_,s6)=>match cl l go .typ s6 with|none=>none|some (r,s7)=>match a1n l [62] s7 with|(_,s8)=>mk l fr 16 [] 0 (one r.i) s8)
   |(false,s5)=>match a2c l s5 with|(t,s6)=>mk l fr 13 t 0 [] s6
 | .param,s=>match a0y l [109,117,116] s with
   |(m,s1)=>match a2c l s1 with
   |(t,s2)=>match a1n l [58] s2 with
   |(_,s3)=>match cl l go .typ s3 with
   |none=>none
   |some (r,s4)=>match m with
    |true=>mk l s.at_ 7 t 1 (one r.i) s4
    |false=>mk l s.at_ 7 t 0 (one r.i) s4
 | .field,s=>match a2c l s with
   |(t,s2)=>match a1n l [58] s2 with
   |(_,s3)=>match cl l go .typ s3 with
   |none=>none
   |some (r,s4)=>mk l s.at_ 5 t 0 (one r.i) s4
 | .variant,s=>match a2c l s with
   |(t,s2)=>match a0y l [40] s2 with
   |(true,s3)=>(match cl l go .typ s3 with
    |none=>none
    |some (r,s4)=>match a1n l [41] s4 with|(_,s5)=>mk l s.at_ 6 t 0 (one r.i) s5)
   |(false,s3)=>mk l s.at_ 6 t 0 [] s3
 | .params ks v,s=>match okB s with
   |false=>some (⟨0,false,ks,v⟩,s)
   |true=>match isS l s [41] with
   |true=>some (⟨0,false,ks,v⟩,s)
   |false=>match cl l go .param s with
   |none=>none
   |some (r,s1)=>match okK ks with
   |false=>none
   |true=>match a0y l [44] s1 with
   |(true,s2)=>go (.params (push ks r.i) (w (v+1))) s2
   |(false,s2)=>some (⟨0,false,(push ks r.i),w (v+1)⟩,s2)
 | .function,s0=>match a1n l [102,110] s0 with
   |(_,s1)=>match a2c l s1 with
   |(t,s2)=>match a1n l [40] s2 with
   |(_,s3)=>match cl l go (.params K.o 0) s3 with
   |none=>none
   |some (p,s4)=>match a1n l [41] s4 with
   |(_,s5)=>match a0y l [45,62] s5 with
   |(true,s6)=>(match cl l go .typ s6 with
    |none=>none
    |some (r,s7)=>match okK p.ks with
    |false=>none
    |true=>match cl l go .block s7 with
    |none=>none
    |some (q,s8)=>match okK (push p.ks r.i)with
    |false=>none
    |true=>match okK (push (push p.ks r.i) q.i)with|false=>none|true=>mk l s0.at_ 2 t p.v (push (push p.ks r.i) q.i).l s8)
   |(false,s6)=>match okB s6 with
    |true=>(if s6.ns.length=s6.n/\s6.n < 1000000/\okF l (w (s6.at_ - 1)) then match okK p.ks with
     |false=>none
     |true=>match cl l go .block {s6 with n:=s6.n+1,ns:=s6.ns++[N.D ⟨12,[],0,[]⟩ (l.getD (w (s6.at_ - 1)).toNat default).e (l.getD (w (s6.at_ - 1)).toNat default).e]}with
     |none=>none
     |some (q,s8)=>match okK (push p.ks (w (((s6.n+1:Nat):Int) - 1)))with
     |false=>none
     |true=>match okK (push (push p.ks (w (((s6.n+1:Nat):Int) - 1))) q.i)with|false=>none|true=>mk l s0.at_ 2 t p.v (push (push p.ks (w (((s6.n+1:Nat):Int) - 1))) q.i).l s8
     else none)
    |false=>match cl l go .block s6 with
     |none=>none
     |some (q,s8)=>match okK p.ks with
     |false=>none
     |true=>match okK (push p.ks q.i)with|false=>none|true=>mk l s0.at_ 2 t p.v (push p.ks q.i).l s8
 | .fields k ks,s=>match okB s with
   |false=>some (rK ks,s)
   |true=>match isS l s [125] with
   |true=>some (rK ks,s)
   |false=>match decide (k=3)with
   |true=>(match cl l go .field s with
    |none=>none
    |some (r,s1)=>match okK ks with
    |false=>none
    |true=>match a0y l [44] s1 with
    |(true,s2)=>go (.fields k (push ks r.i)) s2
    |(false,s2)=>some (rK (push ks r.i),s2))
   |false=>match cl l go .variant s with
    |none=>none
    |some (r,s1)=>match okK ks with
    |false=>none
    |true=>match a0y l [44] s1 with
    |(true,s2)=>go (.fields k (push ks r.i)) s2
    |(false,s2)=>some (rK (push ks r.i),s2)
 | .parts k,s0=>match okS l (adv s0)with
   |false=>none
   |true=>match a2c l (adv s0)with
   |(t,s1)=>match a1n l [123] s1 with
   |(_,s2)=>match cl l go (.fields k K.o) s2 with
   |none=>none
   |some (p,s3)=>match a1n l [125] s3 with
   |(_,s4)=>match okK p.ks with|false=>none|true=>mk l s0.at_ k t 0 p.ks.l s4
 | .item,s=>match isS l s [115,116,114,117,99,116] with
   |true=>cl l go (.parts 3) s
   |false=>match isS l s [101,110,117,109] with
   |true=>cl l go (.parts 4) s
   |false=>cl l go .function s
 | .items ks,s=>match okB s with
   |false=>some (rK ks,s)
   |true=>match(!decide ((now l s).k=5))with
   |false=>some (rK ks,s)
   |true=>match cl l go .item s with
   |none=>none
   |some (r,s1)=>match okK ks with
   |false=>none
   |true=>go (.items (push ks r.i)) s1
 | .stmts ks,s=>match okB s with
   |false=>some (rK ks,s)
   |true=>match isS l s [125] with
   |true=>some (rK ks,s)
   |false=>match cl l go .stmt s with
   |none=>none
   |some (r,s1)=>match okK ks with
   |false=>none
   |true=>match r.b with
   |true=>some (⟨0,true,(push ks r.i),1⟩,s1)
   |false=>go (.stmts (push ks r.i)) s1
 | .block,s0=>match a9c l 98 s0 with
   |(false,s1)=>mk l s0.at_ 20 [] 0 [] (down s1)
   |(true,s1)=>match a1n l [123] s1 with
   |(_,s2)=>match cl l go (.stmts K.o) s2 with
   |none=>none
   |some (p,s3)=>match a1n l [125] s3 with
   |(_,s4)=>match okK p.ks with|false=>none|true=>mk l s0.at_ 20 [] p.v p.ks.l (down s4)
 | .stmt,s0=>match isS l s0 [108,101,116] with
   |true=>(match cl l go (.let_ s0.at_) s0 with|none=>none|some (r,s1)=>some (rI r.i,s1))
   |false=>match a0y l [119,104,105,108,101] s0 with
   |(true,s1)=>(match cl l go (.expr true) s1 with
    |none=>none
    |some (x,s2)=>match cl l go .block s2 with
    |none=>none
    |some (y,s3)=>mk l s0.at_ 24 [] 0 (two x.i y.i) s3)
   |(false,s1)=>match a0y l [114,101,116,117,114,110] s1 with
   |(true,s2)=>(match isS l s2 [59] with
    |true=>a8x l s0.at_ ⟨25,[],0,[]⟩ s2
    |false=>match cl l go (.expr false) s2 with
     |none=>none
     |some (x,s3)=>a8x l s0.at_ ⟨25,[],0,one x.i⟩ s3)
   |(false,s2)=>match a0y l [98,114,101,97,107] s2 with
   |(true,s3)=>a8x l s0.at_ ⟨26,[],0,[]⟩ s3
   |(false,s3)=>match a0y l [99,111,110,116,105,110,117,101] s3 with
   |(true,s4)=>a8x l s0.at_ ⟨27,[],0,[]⟩ s4
   |(false,s4)=>match isS l s4 [105,102] with
   |true=>cl l go (.blocky s0.at_) s4
   |false=>match isS l s4 [109,97,116,99,104] with
   |true=>cl l go (.blocky s0.at_) s4
   |false=>match isS l s4 [123] with
   |true=>cl l go (.blocky s0.at_) s4
   |false=>match cl l go (.expr false) s4 with
   |none=>none
   |some (x,s5)=>match a0y l [61] s5 with
   |(true,s6)=>(match cl l go (.expr false) s6 with
    |none=>none
    |some (y,s7)=>a8x l s0.at_ ⟨23,[],0,two x.i y.i⟩ s7)
   |(false,s6)=>match isS l s6 [125] with
   |true=>some (⟨x.i,true,K.o,0⟩,s6)
   |false=>a8x l s0.at_ ⟨22,[],0,one x.i⟩ s6
 | .let_ fr,s0=>match a1n l [108,101,116] s0 with
   |(_,s1)=>match a0y l [109,117,116] s1 with
   |(m,s2)=>match a2c l s2 with
   |(t,s3)=>match a0y l [58] s3 with
   |(true,s4)=>(match cl l go .typ s4 with
    |none=>none
    |some (x,s5)=>match a1n l [61] s5 with
    |(_,s6)=>match cl l go (.expr false) s6 with
    |none=>none
    |some (y,s7)=>match m with
     |true=>b0k l fr ⟨21,t,1,two x.i y.i⟩ s7
     |false=>b0k l fr ⟨21,t,0,two x.i y.i⟩ s7)
   |(false,s4)=>match a1n l [61] s4 with
    |(_,s6)=>match cl l go (.expr false) s6 with
    |none=>none
    |some (y,s7)=>match m with
     |true=>b0k l fr ⟨21,t,1,one y.i⟩ s7
     |false=>b0k l fr ⟨21,t,0,one y.i⟩ s7
 | .blocky fr,s0=>match cl l go .branch s0 with
   |none=>none
   |some (k,s1)=>match isS l s1 [125] with
   |true=>some (⟨k.i,true,K.o,0⟩,s1)
   |false=>match a3x l fr ⟨22,[],0,one k.i⟩ s1 with
   |none=>none
   |some (i,s2)=>match a0y l [59] s2 with
   |(_,s3)=>some (rI i,s3)
 | .branch,s=>match isS l s [105,102] with
   |true=>cl l go .cond s
   |false=>match isS l s [109,97,116,99,104] with
   |true=>cl l go .match_ s
   |false=>cl l go .block s
 | .cond,s0=>match a1n l [105,102] s0 with
   |(_,s1)=>match cl l go (.expr true) s1 with
   |none=>none
   |some (x,s2)=>match cl l go .block s2 with
   |none=>none
   |some (y,s3)=>match a0y l [101,108,115,101] s3 with
   |(false,s4)=>mk l s0.at_ 45 [] 0 (two x.i y.i) s4
   |(true,s4)=>match isS l s4 [105,102] with
    |false=>(match cl l go .block s4 with
     |none=>none
     |some (z,s5)=>mk l s0.at_ 45 [] 0 [.int .i64 x.i,.int .i64 y.i,.int .i64 z.i] s5)
    |true=>match a9c l 101 s4 with
     |(false,s5)=>mk l s0.at_ 45 [] 0 [.int .i64 x.i,.int .i64 y.i,.int .i64 0] (down s5)
     |(true,s5)=>match cl l go .cond s5 with
      |none=>none
      |some (z,s6)=>mk l s0.at_ 45 [] 0 [.int .i64 x.i,.int .i64 y.i,.int .i64 z.i] (down s6)
 | .match_,s0=>match a1n l [109,97,116,99,104] s0 with
   |(_,s1)=>match cl l go (.expr true) s1 with
   |none=>none
   |some (x,s2)=>match a1n l [123] s2 with
   |(_,s3)=>match cl l go (.arms ⟨one x.i,1⟩) s3 with
   |none=>none
   |some (p,s4)=>match a1n l [125] s4 with
   |(_,s5)=>match okK p.ks with|false=>none|true=>mk l s0.at_ 46 [] 0 p.ks.l s5
 | .arms ks,s=>match okB s with
   |false=>some (rK ks,s)
   |true=>match isS l s [125] with
   |true=>some (rK ks,s)
   |false=>match cl l go .arm s with
   |none=>none
   |some (r,s1)=>match okK ks with
   |false=>none
   |true=>go (.arms (push ks r.i)) s1
 | .arm,s0=>match cl l go .pattern s0 with
   |none=>none
   |some (x,s1)=>match a1n l [61,62] s1 with
   |(_,s2)=>match isS l s2 [123] with
   |true=>(match cl l go .block s2 with
    |none=>none
    |some (y,s3)=>match a3x l s0.at_ ⟨47,[],0,two x.i y.i⟩ s3 with
    |none=>none
    |some (i,s4)=>match a0y l [44] s4 with
    |(_,s5)=>some (rI i,s5))
   |false=>match cl l go (.expr false) s2 with
    |none=>none
    |some (y,s3)=>match a3x l s0.at_ ⟨47,[],0,two x.i y.i⟩ s3 with
    |none=>none
    |some (i,s4)=>match isS l s4 [125] with
    |true=>some (rI i,s4)
    |false=>match a1n l [44] s4 with
    |(_,s5)=>some (rI i,s5)
 | .pattern,s=>deeper l go 112 (.patterned s.at_) s
 | .patterned fr,s=>match a0y l [95] s with
   |(true,s1)=>mk l fr 50 [] 0 [] s1
   |(false,s1)=>match a0y l [116,114,117,101] s1 with
   |(true,s2)=>mk l fr 53 [] 1 [] s2
   |(false,s2)=>match a0y l [102,97,108,115,101] s2 with
   |(true,s3)=>mk l fr 53 [] 0 [] s3
   |(false,s3)=>match isS l s3 [45] with
   |true=>numS fr s3
   |false=>match decide ((now l s3).k=3)with
   |true=>numS fr s3
   |false=>match a2c l s3 with
   |(t,s4)=>match a0y l [58,58] s4 with
   |(false,s5)=>mk l fr 51 t 0 [] s5
   |(true,s5)=>match a2c l s5 with
   |(u,s6)=>match a0y l [40] s6 with
   |(false,s7)=>mk l fr 54 (t++[58,58]++u) 0 [] s7
   |(true,s7)=>match cl l go .pattern s7 with
   |none=>none
   |some (r,s8)=>match a1n l [41] s8 with
   |(_,s9)=>mk l fr 54 (t++[58,58]++u) 0 (one r.i) s9
 | .expr bare,s=>deeper l go 101 (.row 0 bare) s
 | .row r bare,s=>match decide (r=5)with
   |true=>cl l go (.prefix_ bare) s
   |false=>match cl l go (.row (w (r+1)) bare) s with
   |none=>none
   |some (a,s1)=>match cl l go (.rows r bare s.at_ a.i) s1 with
   |none=>none
   |some (a,s2)=>some (rI a.i,s2)
 | .rows r bare fr a,s=>match okB s with
   |false=>some (rI a,s)
   |true=>match(!decide (b7y l r s=[]))with
   |false=>some (rI a,s)
   |true=>match okS l (adv s)with
   |false=>none
   |true=>match cl l go (.row (w (r+1)) bare) (adv s)with
   |none=>none
   |some (b,s1)=>match a3x l fr ⟨38,b7y l r s,0,two a b.i⟩ s1 with
   |none=>none
   |some (i,s2)=>match decide (r=2)with
   |true=>some (rI i,s2)
   |false=>go (.rows r bare fr i) s2
 | .operand bare,s=>deeper l go 101 (.prefix_ bare) s
 | .prefix_ bare,s=>match a0y l [45] s with
   |(true,s1)=>(match cl l go (.operand bare) s1 with|none=>none|some (r,s2)=>mk l s.at_ 39 [] 0 (one r.i) s2)
   |(false,s1)=>match a0y l [33] s1 with
   |(true,s2)=>(match cl l go (.operand bare) s2 with|none=>none|some (r,s3)=>mk l s.at_ 40 [] 0 (one r.i) s3)
   |(false,s2)=>match a0y l [42] s2 with
   |(true,s3)=>(match cl l go (.operand bare) s3 with|none=>none|some (r,s4)=>mk l s.at_ 42 [] 0 (one r.i) s4)
   |(false,s3)=>match a0y l [38] s3 with
   |(true,s4)=>(match a0y l [109,117,116] s4 with
    |(true,s5)=>(match cl l go (.operand bare) s5 with|none=>none|some (r,s6)=>mk l s.at_ 43 [] 1 (one r.i) s6)
    |(false,s5)=>match cl l go (.operand bare) s5 with|none=>none|some (r,s6)=>mk l s.at_ 43 [] 0 (one r.i) s6)
   |(false,s4)=>cl l go (.postfix_ bare) s4
 | .postfix_ bare,s=>match cl l go (.primary bare) s with
   |none=>none
   |some (a,s1)=>match cl l go (.gets s.at_ a.i) s1 with
   |none=>none
   |some (a,s2)=>some (rI a.i,s2)
 | .gets fr a,s=>match a0y l [46] s with
   |(false,s1)=>some (rI a,s1)
   |(true,s1)=>match a2c l s1 with
   |(t,s2)=>match a3x l fr ⟨41,t,0,one a⟩ s2 with
   |none=>none
   |some (i,s3)=>go (.gets fr i) s3
 | .primary bare,s=>match okB s with
   |false=>none
   |true=>match decide ((now l s).k=3)with
   |true=>(match okS l (adv s)with|false=>none|true=>mk l s.at_ 30 [] (now l s).v [] (adv s))
   |false=>match a0y l [116,114,117,101] s with
   |(true,s1)=>mk l s.at_ 31 [] 1 [] s1
   |(false,s1)=>match a0y l [102,97,108,115,101] s1 with
   |(true,s2)=>mk l s.at_ 31 [] 0 [] s2
   |(false,s2)=>match a0y l [40] s2 with
   |(true,s3)=>(match a0y l [41] s3 with
    |(true,s4)=>mk l s.at_ 32 [] 0 [] s4
    |(false,s4)=>match cl l go (.expr false) s4 with
     |none=>none
     |some (r,s5)=>match a1n l [41] s5 with|(_,s6)=>some (rI r.i,s6))
   |(false,s3)=>match a0y l [66,111,120] s3 with
   |(true,s4)=>(match a1n l [58,58] s4 with
    |(_,s5)=>match okB s5 with
     |true=>(match(!decide ((now l s5).k=1))with
      |true=>newS s.at_ (a2n l 120 s5)
      |false=>match(!decide ((now l s5).t=[110,101,119]))with
       |true=>newS s.at_ (a2n l 120 s5)
       |false=>newS s.at_ s5)
     |false=>newS s.at_ s5)
   |(false,s4)=>match isS l s4 [105,102] with
   |true=>cl l go .branch s4
   |false=>match isS l s4 [109,97,116,99,104] with
   |true=>cl l go .branch s4
   |false=>match isS l s4 [123] with
   |true=>cl l go .branch s4
   |false=>cl l go (.named s.at_ bare) s4
 | .named fr bare,s=>match a2c l s with
   |(t,s1)=>match a0y l [40] s1 with
   |(true,s2)=>(match cl l go (.args K.o) s2 with
    |none=>none
    |some (p,s3)=>match a1n l [41] s3 with
    |(_,s4)=>match okK p.ks with|false=>none|true=>mk l fr 34 t 0 p.ks.l s4)
   |(false,s2)=>match bare with
    |true=>pickS fr t s2
    |false=>match a0y l [123] s2 with
     |(true,s3)=>(match cl l go (.inits K.o) s3 with
      |none=>none
      |some (p,s4)=>match a1n l [125] s4 with
      |(_,s5)=>match okK p.ks with|false=>none|true=>mk l fr 35 t 0 p.ks.l s5)
     |(false,s3)=>pickS fr t s3
 | .args ks,s=>match okB s with
   |false=>some (rK ks,s)
   |true=>match isS l s [41] with
   |true=>some (rK ks,s)
   |false=>match cl l go (.expr false) s with
   |none=>none
   |some (r,s1)=>match okK ks with
   |false=>none
   |true=>match a0y l [44] s1 with
   |(true,s2)=>go (.args (push ks r.i)) s2
   |(false,s2)=>some (rK (push ks r.i),s2)
 | .inits ks,s=>match okB s with
   |false=>some (rK ks,s)
   |true=>match isS l s [125] with
   |true=>some (rK ks,s)
   |false=>match cl l go .init s with
   |none=>none
   |some (r,s1)=>match okK ks with
   |false=>none
   |true=>match a0y l [44] s1 with
   |(true,s2)=>go (.inits (push ks r.i)) s2
   |(false,s2)=>some (rK (push ks r.i),s2)
 | .init,s=>match a2c l s with
   |(t,s1)=>match a1n l [58] s1 with
   |(_,s2)=>match cl l go (.expr false) s2 with
   |none=>none
   |some (r,s3)=>mk l s.at_ 36 t 0 (one r.i) s3
where
 numS (fr:Int) (s3:PS):M:=match a0y l [45] s3 with
  |(m,s4)=>match(!decide ((now l s4).k=3))with
  |true=>some (rI 0,a2n l 120 s4)
  |false=>match okS l (adv s4)with
  |false=>none
  |true=>match m with
   |true=>mk l fr 52 [] (w (0 - (now l s4).v)) [] (adv s4)
   |false=>mk l fr 52 [] (now l s4).v [] (adv s4)
 newS (fr:Int) (s5:PS):M:=match a2c l s5 with
  |(_,s6)=>match a1n l [40] s6 with
  |(_,s7)=>match cl l go (.expr false) s7 with
  |none=>none
  |some (r,s8)=>match a1n l [41] s8 with
  |(_,s9)=>mk l fr 44 [] 0 (one r.i) s9
 pickS (fr:Int) (t:S) (s2:PS):M:=match a0y l [58,58] s2 with
  |(false,s3)=>mk l fr 33 t 0 [] s3
  |(true,s3)=>match a2c l s3 with
  |(u,s4)=>match a0y l [40] s4 with
  |(false,s5)=>mk l fr 37 (t++[58,58]++u) 0 [] s5
  |(true,s5)=>match cl l go (.expr false) s5 with
  |none=>none
  |some (r,s6)=>match a1n l [41] s6 with
  |(_,s7)=>mk l fr 37 (t++[58,58]++u) 0 (one r.i) s7
end
def go (l:List TokQ):Nat->Q->PS->M
 |0=>fun _ _=>none
 |n+1=>step l (go l n)
end Go.Vm.Pa
namespace Go.Vm.Ite
open Go.Vm.Lex (TokQ)
open Go.Vm.Pa hiding go
def PB (l:List TokQ) (s:PS):Ob:= .box [.d (.sl (l.map g2r)),.d (.int .i64 s.at_),.d (.int .i64 s.deep),.row 1 s.n,.d (.int .i64 s.bc),.d (.int .i64 s.bf),.d (.int .i64 s.be)]
def PR (s:PS):Ob:= .row 6 s.ns
theorem f4f {l:List TokQ} {s:PS} (h:okS l s=true):0<=s.at_/\s.at_ < l.length:=by simpa [okS] using h
theorem g0k {l:List TokQ} {n:Int} (h:okF l n=true):0<=n/\n < l.length:=by simpa [okF] using h
theorem c9d {l:List TokQ} {n:Int} (h:0<=n/\n < l.length):0<=n/\(l.map g2r)[n.toNat]? =some (g2r (l.getD n.toNat default)):=by
 refine⟨h.1,?_⟩
 have:n.toNat < l.length:=om
 rw[List.getElem?_map,List.getElem?_eq_getElem this]
 simp[List.getD_eq_getElem?_getD,List.getElem?_eq_getElem this]
section
variable {fx:Nat->Option Obj} {F:Nat->Option a0x} {l:List TokQ} {s s1:PS} {X:Hp}
theorem lift {f:Nat} {a:List V} {s':PS} {r:V} (h:evF (pgL fx F0) f a [PB l s,PR s]=some (r,[PB l s',PR s'])) (ha:a1a 2 a=true) (hr:r.und 2=true):evF (pgL fx F) f a (PB l s::PR s::X)=some (r,PB l s'::PR s'::X):=by
 apply up
 exact d8g (mv fx) h ha rfl rfl rfl hr
theorem b6r (h:okS l s=true):evF (pgL fx F) b9n [.ptr 0 0] (PB l s::PR s::X)=some (.d (g2r (now l s)),PB l s::PR s::X):=by
 refine lift ?_ rfl rfl
 have hg:=c9d (f4f h)
 refine a0e (b7x (F:=F0)) rfl rfl rfl ?_
 repeat' (first|refine run ⟨?_⟩|refine a0f hg ?_|fail)
 exact rfl
theorem a6r {b:Bool} (e:okB s=b):evF (pgL fx F) b1s [.ptr 0 0] (PB l s::PR s::X)=some (boo b,PB l s::PR s::X):=by
 subst e
 refine lift ?_ rfl rfl
 refine a0e (c0j (F:=F0)) rfl rfl rfl ?_
 refine run ⟨?_⟩
 exact rfl
theorem h5a (h:okS l s=true) (c:Int):evF (pgL fx F0) a9e [.ptr 0 0,.d (.int .i64 c)] [PB l s,PR s]=some (.tup [],[PB l (a2n l c s),PR (a2n l c s)]):=by
 refine a0e (b7c (F:=F0)) rfl rfl rfl ?_
 unfold a2n
 cases e:okB s with
 |true=>
  repeat' (first|refine run ⟨?_⟩|refine ca (a6r e) ?_|refine ca (b6r h) ?_|fail)
  exact rfl
 |false=>
  repeat' (first|refine run ⟨?_⟩|refine ca (a6r e) ?_|refine ca (b6r h) ?_|fail)
  exact rfl
theorem c1x (h:okS l s=true) {c:Int}:evF (pgL fx F) a9e [.ptr 0 0,.d (.int .i64 c)] (PB l s::PR s::X)=some (.tup [],PB l (a2n l c s)::PR (a2n l c s)::X):=lift (h5a h c) rfl rfl
theorem is_s (h:okS l s=true) (x:S):evF (pgL fx F0) b1x [.ptr 0 0,str x] [PB l s,PR s]=some (boo (isS l s x),[PB l s,PR s]):=by
 refine a0e (c0q (F:=F0)) rfl rfl rfl ?_
 cases c2:decide ((now l s).k=2)<;>cases c4:decide ((now l s).k=4)<;>unfold isS<;>rw[c2,c4]
 all_goals
  repeat' (first|refine run ⟨?_⟩|refine ca (b6r h) ?_|fail)
  exact rfl
theorem b0y (h:okS l s=true) {x:S} {b:Bool} (e:isS l s x=b):evF (pgL fx F) b1x [.ptr 0 0,.d (.str x)] (PB l s::PR s::X)=some (.d (.bool b),PB l s::PR s::X):=by
 subst e;exact lift (is_s h x) rfl rfl
theorem g9g (h:okS l s=true) (x:S):evF (pgL fx F0) a5p [.ptr 0 0,str x] [PB l s,PR s]=some (boo (a0y l x s).1,[PB l (a0y l x s).2,PR (a0y l x s).2]):=by
 refine a0e (b7e (F:=F0)) rfl rfl rfl ?_
 unfold a0y
 cases e:okB s with
 |false=>
  repeat' (first|refine run ⟨?_⟩|refine ca (a6r e) ?_|fail)
  exact rfl
 |true=>
  cases e2:isS l s x with
  |true=>
   repeat' (first|refine run ⟨?_⟩|refine ca (a6r e) ?_|refine ca (b0y h e2) ?_|fail)
   exact rfl
  |false=>
   repeat' (first|refine run ⟨?_⟩|refine ca (a6r e) ?_|refine ca (b0y h e2) ?_|fail)
   exact rfl
theorem a1t (h:okS l s=true) {x:S} {b:Bool} (e:a0y l x s=(b,s1)):evF (pgL fx F) a5p [.ptr 0 0,.d (.str x)] (PB l s::PR s::X)=some (.d (.bool b),PB l s1::PR s1::X):=by
 have:=lift (F:=F) (X:=X) (g9g (fx:=fx) h x) rfl rfl
 rw[e]at this;exact this
theorem h0o (h:okS l s=true) (x:S):evF (pgL fx F0) a5o [.ptr 0 0,str x] [PB l s,PR s]=some (.tup [],[PB l (a1n l x s).2,PR (a1n l x s).2]):=by
 refine a0e (b7t (F:=F0)) rfl rfl rfl ?_
 cases e:okB s && isS l s x with
 |true=>
  have et:a0y l x s=(true,adv s):=by unfold a0y;rw[e];rfl
  have en:a1n l x s=(true,adv s):=by unfold a1n;rw[e];rfl
  rw[en]
  repeat' (first|refine run ⟨?_⟩|refine ca (a1t h et) ?_|fail)
  exact rfl
 |false=>
  have et:a0y l x s=(false,s):=by unfold a0y;rw[e];rfl
  have en:a1n l x s=(false,a2n l 120 s):=by unfold a1n;rw[e];rfl
  rw[en]
  repeat' (first|refine run ⟨?_⟩|refine ca (a1t h et) ?_|refine ca (c1x h) ?_|fail)
  exact rfl
theorem a1q (h:okS l s=true) {x:S} {b:Bool} (e:a1n l x s=(b,s1)):evF (pgL fx F) a5o [.ptr 0 0,.d (.str x)] (PB l s::PR s::X)=some (.tup [],PB l s1::PR s1::X):=by
 have:=lift (F:=F) (X:=X) (h0o (fx:=fx) h x) rfl rfl
 rw[e]at this;exact this
theorem h4r (h:okS l s=true) (hl:l.length<=1000000):evF (pgL fx F0) a5m [.ptr 0 0] [PB l s,PR s]=some (str (a2c l s).1,[PB l (a2c l s).2,PR (a2c l s).2]):=by
 refine a0e (b7l (F:=F0)) rfl rfl rfl ?_
 unfold a2c
 cases e:okB s with
 |false=>
  repeat' (first|refine run ⟨?_⟩|refine ca (a6r e) ?_|refine ca (c1x h) ?_|fail)
  exact rfl
 |true=>
  cases e2:decide ((now l s).k=1)with
  |true=>
   have hr:=f4f h
   have hw:IntKind.i64.wrap (IntKind.i64.wrap (s.at_+1) - 1)=s.at_:=by rw[a1k (n:=s.at_+1) om,a1k om];omega
   have hg:=c9d hr
   rw[<-hw]at hg
   have hn:l.getD (IntKind.i64.wrap (IntKind.i64.wrap (s.at_+1) - 1)).toNat default=now l s:=by rw[hw];rfl
   rw[hn]at hg
   repeat' (first|refine run ⟨?_⟩|refine ca (a6r e) ?_|refine ca (b6r h) ?_|refine a0f hg ?_|fail)
   exact rfl
  |false=>
   repeat' (first|refine run ⟨?_⟩|refine ca (a6r e) ?_|refine ca (b6r h) ?_|refine ca (c1x h) ?_|fail)
   exact rfl
theorem a2e (h:okS l s=true) (hl:l.length<=1000000) {t:S} (e:a2c l s=(t,s1)):evF (pgL fx F) a5m [.ptr 0 0] (PB l s::PR s::X)=some (.d (.str t),PB l s1::PR s1::X):=by
 have:=lift (F:=F) (X:=X) (h4r (fx:=fx) h hl) rfl rfl
 rw[e]at this;exact this
end
end Go.Vm.Ite
namespace Go.Vm.Ite
open Go.Vm.Lex (TokQ)
open Go.Vm.Pa hiding go
theorem gSg {l:List S} {i:Nat} (h:i < l.length):0<=(i:Int)/\(l.map D.str)[(i:Int).toNat]? =some (D.str (l.getD i [])):=by
 refine⟨om,?_⟩
 rw[Int.toNat_natCast,List.getElem?_map,List.getElem?_eq_getElem h]
 simp[List.getD_eq_getElem?_getD,List.getElem?_eq_getElem h]
theorem e6l {l:List S} {i:Nat} (h:i < l.length):l.drop i=l.getD i []::l.drop (i+1):=by
 rw[List.drop_eq_getElem_cons h];simp[List.getD_eq_getElem?_getD,List.getElem?_eq_getElem h]
section
variable {fx:Nat->Option Obj} {F:Nat->Option a0x} {l:List TokQ} {s s1:PS} {X:Hp}
theorem i1a (h:okS l s=true) (xs:List S) (hx:xs.length<=1000):evF (pgL fx F0) b0e [.ptr 0 0,.d (.sl (xs.map D.str))] [PB l s,PR s]=some (boo (anyS l s xs),[PB l s,PR s]):=by
 have hlm:(xs.map D.str).length=xs.length:=List.length_map ..
 refine a0e (b7w (F:=F0)) rfl rfl rfl ?_
 refine run ⟨?_⟩
 refine a0o (α:=Nat) (fun i=>xs.length - i) (fun i=>[(0,.ptr 0 0),(1,.d (.sl (xs.map D.str))),(5,.d (.int .i64 (i:Int)))]) (fun _=>[PB l s,PR s]) (fun i=>i<=xs.length/\anyS l s xs=(xs.drop i).any (isS l s)) ?_ 0 ⟨Nat.zero_le _,rfl⟩ rfl rfl
 rintro i ⟨hi,hv⟩
 rw[hv]
 by_cases c:i < xs.length
 ·have c':(i:Int) < ((xs.map D.str).length:Int):=by rw[hlm];omega
  have pi:=gSg c
  rw[e6l c,List.any_cons]
  generalize xs.getD i []=y at pi⊢
  cases e:isS l s y with
  |true=>
   repeat' (first|refine run ⟨?_⟩|refine a0f pi ?_|refine ca (b0y h e) ?_|fail)
   exact rfl
  |false=>
   repeat' (first|refine run ⟨?_⟩|refine a0f pi ?_|refine ca (b0y h e) ?_|fail)
   refine⟨i+1,⟨c,rfl⟩,om,?_,rfl⟩
   ·rw[a1k om]<;>rfl
 ·have c':¬ (i:Int) < ((xs.map D.str).length:Int):=by rw[hlm];omega
  rw[List.drop_eq_nil_of_le om]
  refine run ⟨?_⟩
  exact rfl
theorem i2g (h:okS l s=true) {xs:List S} (hx:xs.length<=1000) {b:Bool} {A:V} (hA:A= .d (.sl (xs.map D.str))) (e:anyS l s xs=b):evF (pgL fx F) b0e [.ptr 0 0,A] (PB l s::PR s::X)=some (.d (.bool b),PB l s::PR s::X):=by
 subst e;subst hA;exact lift (i1a h xs hx) rfl rfl
theorem f6c (h:okS l s=true) (c:Int):evF (pgL fx F0) a7w [.ptr 0 0,.d (.int .u8 c)] [PB l s,PR s]=some (boo (b2v l c s),[PB l s,PR s]):=by
 refine a0e (b4j (F:=F0)) rfl rfl rfl ?_
 unfold b2v
 have e1:=fun xs hx A hA=>i2g (fx:=fx) (F:=F0) (X:=[]) h (xs:=xs) hx (A:=A) hA rfl
 cases c1:decide ((now l s).k=1)<;>cases c3:decide ((now l s).k=3)<;>
 by_cases d1:c=116
 all_goals first|rw[if_pos d1]|rw[if_neg d1]
 all_goals try(by_cases d2:c=101<;>first|rw[if_pos d2]|rw[if_neg d2])
 all_goals try(by_cases d3:c=112<;>first|rw[if_pos d3]|rw[if_neg d3])
 all_goals
  repeat' (first|refine run ⟨?_⟩|refine ca (b6r h) ?_|refine ca (e1 h7u (by decide) _ rfl) ?_|refine ca (e1 h4x (by decide) _ rfl) ?_|refine ca (e1 patL (by decide) _ rfl) ?_|refine ca (b0y h rfl) ?_|fail)
  exact rfl
theorem f4q (h:okS l s=true) {c:Int} {b:Bool} (e:b2v l c s=b):evF (pgL fx F) a7w [.ptr 0 0,.d (.int .u8 c)] (PB l s::PR s::X)=some (.d (.bool b),PB l s::PR s::X):=by
 subst e;exact lift (f6c h c) rfl rfl
theorem c4h {c:Int} (h:okS l s=true):okS l (a2n l c s)=true:=by unfold a2n;split<;>exact h
theorem e0f {c:Int} (h:okS l s=true):okS l (a4f l c s)=true:=by unfold a4f;split<;>first|exact h|exact c4h h
theorem f6o (h:okS l s=true):okS l (b1n l s)=true:=by unfold b1n;split<;>first|exact h|exact c4h h
theorem h4b (h:okS l s=true) (c:Int):evF (pgL fx F0) a9h [.ptr 0 0,.d (.int .u8 c)] [PB l s,PR s]=some (boo (a9c l c s).1,[PB l (a9c l c s).2,PR (a9c l c s).2]):=by
 refine a0e (b7j (F:=F0)) rfl rfl rfl ?_
 unfold a9c
 obtain⟨s1,e1⟩:∃ s1,a4f l c s=s1:=⟨_,rfl⟩
 obtain⟨s2,e2⟩:∃ s2,b1n l s1=s2:=⟨_,rfl⟩
 obtain⟨b3,e3⟩:∃ b3,okB (d0e s2)=b3:=⟨_,rfl⟩
 rw[e1,e2,e3]
 have h1:okS l s1=true:=by rw[<-e1];exact e0f h
 have last:∀ {X:Hp},evF (pgL fx F0) b1s [.ptr 0 0] (PB l (d0e s2)::PR (d0e s2)::X)=some (boo b3,PB l (d0e s2)::PR (d0e s2)::X):=a6r e3
 have mid:∀ (s0:PS),(if okB s0 && !b2v l c s0 then a2n l 120 s0 else s0)=a4f l c s0:=fun _=>rfl
 cases a1:okB s<;>cases a2:b2v l c s<;>cases a3:okB s1<;>cases a4:decide (100<=s1.deep)
 all_goals(have f1:s1=(if okB s && !b2v l c s then a2n l 120 s else s):=e1.symm)
 all_goals(have f2:s2=(if okB s1 && decide (100<=s1.deep) then a2n l 121 s1 else s1):=e2.symm)
 all_goals rw[a1,a2]at f1
 all_goals rw[a3,a4]at f2
 all_goals simp only[Bool.not_true,Bool.not_false,Bool.and_true,Bool.and_false,Bool.true_and,Bool.false_and,if_true,if_false,Bool.false_eq_true]at f1 f2
 all_goals subst f2
 all_goals first|(subst f1)|skip
 all_goals try(rw[a1]at a3;cases a3;done)
 all_goals
  repeat' (first|refine run ⟨?_⟩|refine ca (a6r a1) ?_|refine ca (f4q h a2) ?_|refine ca (c1x h) ?_|refine ca (a6r a3) ?_|refine ca (c1x h1) ?_|refine ca (last) ?_|fail)
  exact rfl
theorem b8p (h:okS l s=true) {c:Int} {b:Bool} (e:a9c l c s=(b,s1)):evF (pgL fx F) a9h [.ptr 0 0,.d (.int .u8 c)] (PB l s::PR s::X)=some (.d (.bool b),PB l s1::PR s1::X):=by
 have:=lift (F:=F) (X:=X) (h4b (fx:=fx) h c) rfl rfl
 rw[e]at this;exact this
theorem g2p (r:Int) {X:Hp}:evF (pgL fx F) b9d [.d (.int .i64 r)] X=some (.d (.sl ((a8a r).map D.str)),X):=by
 refine a5v (d2f (F:=F)) rfl rfl ?_ X
 unfold a8a
 by_cases d1:r=0
 ·rw[if_pos d1]
  refine run ⟨?_⟩
  exact rfl
 ·rw[if_neg d1]
  by_cases d2:r=1
  ·rw[if_pos d2]
   refine run ⟨?_⟩
   exact rfl
  ·rw[if_neg d2]
   by_cases d3:r=2
   ·rw[if_pos d3]
    refine run ⟨?_⟩
    exact rfl
   ·rw[if_neg d3]
    by_cases d4:r=3
    ·rw[if_pos d4]
     refine run ⟨?_⟩
     exact rfl
    ·rw[if_neg d4]
     refine run ⟨?_⟩
     exact rfl
theorem e6d (r:Int):(a8a r).length<=10:=by unfold a8a;(repeat' split)<;>decide
theorem h2g (h:okS l s=true) (r:Int):evF (pgL fx F0) a9v [.ptr 0 0,.d (.int .i64 r)] [PB l s,PR s]=some (str (b7y l r s),[PB l s,PR s]):=by
 have hx:=e6d r
 unfold b7y
 have es:∀ {X:Hp},evF (pgL fx F0) b9d [.d (.int .i64 r)] X=some (.d (.sl ((a8a r).map D.str)),X):=g2p r
 revert es
 generalize a8a r=xs at hx⊢
 intro es
 have hlm:(xs.map D.str).length=xs.length:=List.length_map ..
 refine a0e (b7f (F:=F0)) rfl rfl rfl ?_
 repeat' (first|refine run ⟨?_⟩|refine ca (es) ?_|fail)
 obtain⟨res,hres⟩:∃ res,((xs.find? fun x=>okB s && isS l s x).getD [])=res:=⟨_,rfl⟩
 rw[hres]
 refine a0o (α:=Nat) (fun i=>xs.length - i) (fun i=>[(0,.ptr 0 0),(5,.d (.sl (xs.map D.str))),(6,.d (.int .i64 (i:Int)))]) (fun _=>[PB l s,PR s]) (fun i=>i<=xs.length/\(((xs.drop i).find? fun x=>okB s && isS l s x).getD [])=res) ?_ 0 ⟨Nat.zero_le _,hres⟩ rfl rfl
 rintro i ⟨hi,hv⟩
 by_cases c:i < xs.length
 ·have c':(i:Int) < ((xs.map D.str).length:Int):=by rw[hlm];omega
  have pi:=gSg c
  rw[e6l c,List.find?_cons]at hv
  generalize xs.getD i []=y at pi hv
  cases e0:okB s with
  |false=>
   rw[e0]at hv
   repeat' (first|refine run ⟨?_⟩|refine a0f pi ?_|refine ca (a6r e0) ?_|fail)
   refine⟨i+1,⟨c,by rw[<-hv];rfl⟩,om,?_,rfl⟩
   rw[a1k om]<;>rfl
  |true=>
   cases e:isS l s y with
   |true=>
    rw[e0,e]at hv
    subst hv
    repeat' (first|refine run ⟨?_⟩|refine a0f pi ?_|refine ca (a6r e0) ?_|refine ca (b0y h e) ?_|fail)
    exact rfl
   |false=>
    rw[e0,e]at hv
    repeat' (first|refine run ⟨?_⟩|refine a0f pi ?_|refine ca (a6r e0) ?_|refine ca (b0y h e) ?_|fail)
    refine⟨i+1,⟨c,by rw[<-hv];rfl⟩,om,?_,rfl⟩
    rw[a1k om]<;>rfl
 ·have c':¬ (i:Int) < ((xs.map D.str).length:Int):=by rw[hlm];omega
  rw[List.drop_eq_nil_of_le om]at hv
  subst hv
  refine run ⟨?_⟩
  exact rfl
theorem c7p (h:okS l s=true) {r:Int}:evF (pgL fx F) a9v [.ptr 0 0,.d (.int .i64 r)] (PB l s::PR s::X)=some (.d (.str (b7y l r s)),PB l s::PR s::X):=lift (h2g h r) rfl rfl
end
end Go.Vm.Ite
namespace Go.Vm.Ite
open Go.Vm.Lex (TokQ)
open Go.Vm.Pa hiding go
section
variable {fx:Nat->Option Obj} {F:Nat->Option a0x} {l:List TokQ} {s s1:PS} {X:Hp}
theorem b6p {fr i:Int} {n:N} (e:a3x l fr n s=some (i,s1)):evF (pgL fx F0) a9l [.ptr 0 0,.d (.int .i64 fr),.d (n.D 0 0)] [PB l s,PR s]=some (.d (.int .i64 i),[PB l s1,PR s1]):=by
 unfold a3x at e
 split at e
 ·rename_i hg
  obtain⟨hn,hn2,hf,ha⟩:=hg
  have gf:=c9d (g0k hf)
  have hroom:roomy (s.n+1) 72:=by unfold roomy;omega
  simp only[Option.some.injEq,Prod.mk.injEq]at e
  obtain⟨rfl,rfl⟩:=e
  refine a0e (b7p (F:=F0)) rfl rfl rfl ?_
  by_cases c:fr < s.at_
  ·have ga:=c9d (g0k (ha c))
   repeat' (first|refine a2q ⟨?_⟩|refine a0a 8 (by decide) (by decide) ?_|refine a0f gf ?_|refine a0f ga ?_|refine And.intro ⟨rfl,by decide⟩ ?_|refine And.intro ⟨rfl,hn,hroom⟩ ?_|refine a0a 3 (by decide) (by decide) ?_|fail)
   rw[if_pos c]
   exact rfl
  ·repeat' (first|refine a2q ⟨?_⟩|refine a0a 8 (by decide) (by decide) ?_|refine a0f gf ?_|refine And.intro ⟨rfl,by decide⟩ ?_|refine And.intro ⟨rfl,hn,hroom⟩ ?_|refine a0a 3 (by decide) (by decide) ?_|fail)
   rw[if_neg c]
   exact rfl
 ·cases e
theorem a1b {fr i:Int} {n:N} {A:D} (e:a3x l fr n s=some (i,s1)) (hA:A=n.D 0 0):evF (pgL fx F) a9l [.ptr 0 0,.d (.int .i64 fr),.d A] (PB l s::PR s::X)=some (.d (.int .i64 i),PB l s1::PR s1::X):=by
 subst hA;exact lift (b6p e) rfl rfl
end
end Go.Vm.Ite
namespace Go.Vm.Ite
open Go.Vm.Lex (TokQ)
open Go.Vm.Pa
structure LOk (l:List TokQ):Prop where
 len:l.length<=1000000
 txt:∀ i,(l.getD i default).t.length<=1000000
 last:∀ i,i < l.length->(l.getD i default).k≠5->i+1 < l.length
section
variable {fx:Nat->Option Obj} {F:Nat->Option a0x} {l:List TokQ} {s s1 s2:PS} {X:Hp} {n m:Nat} {r:R}
theorem d8m (hl:LOk l) (h:okS l s=true) (hk:(now l s).k≠5):okS l (adv s)=true:=by
 have hr:=f4f h
 have:=hl.last s.at_.toNat om hk
 have hlen:=hl.len
 have hw:(adv s).at_=s.at_+1:=a1k (n:=s.at_+1) om
 unfold okS
 rw[hw]
 simp only[Bool.and_eq_true,decide_eq_true_eq]
 omega
theorem d2c (hl:LOk l) (s:PS):(a2c l s).1.length<=1000000:=by
 unfold a2c
 split
 ·exact hl.txt _
 ·exact Nat.zero_le _
theorem i2i (hl:LOk l) {s:PS}:(a2c l s).1.length+([58,58]:S).length<=9223372036854775807:=by
 have:=d2c hl s
 simp only[List.length_cons,List.length_nil];omega
theorem i1x (hl:LOk l) {s s2:PS}:((a2c l s).1++([58,58]:S)).length+(a2c l s2).1.length<=9223372036854775807:=by
 have:=d2c hl s
 have:=d2c hl s2
 simp only[List.length_append,List.length_cons,List.length_nil];omega
theorem f9k:roomy 2 8:=by decide
theorem f9e:roomy 3 8:=by decide
theorem a1c {k:K} (h:okK k=true):k.l.length=k.n:=by
 unfold okK at h
 simp only[Bool.and_eq_true,decide_eq_true_eq]at h
 exact h.1
theorem a1i {k:K} (h:okK k=true):roomy (k.n+1) 8:=by
 unfold okK at h
 simp only[Bool.and_eq_true,decide_eq_true_eq]at h
 unfold roomy;omega
theorem is_k {x:S} (h:isS l s x=true):(now l s).k≠5:=by
 unfold isS at h
 simp only[Bool.and_eq_true,Bool.or_eq_true,decide_eq_true_eq]at h
 omega
theorem g0w (h:okS l s=true):okS l (down s)=true:=h
theorem f0f (hl:LOk l) {x:S} {b:Bool} (e:a0y l x s=(b,s1)) (h:okS l s=true):okS l s1=true:=by
 unfold a0y at e
 split at e
 ·rename_i c
  cases e
  simp only[Bool.and_eq_true]at c
  exact d8m hl h (is_k c.2)
 ·cases e;exact h
theorem e6b (hl:LOk l) {x:S} {b:Bool} (e:a1n l x s=(b,s1)) (h:okS l s=true):okS l s1=true:=by
 unfold a1n at e
 split at e
 ·rename_i c
  cases e
  simp only[Bool.and_eq_true]at c
  exact d8m hl h (is_k c.2)
 ·cases e;exact c4h h
theorem e7d (hl:LOk l) {x:S} (e:a2c l s=(x,s1)) (h:okS l s=true):okS l s1=true:=by
 unfold a2c at e
 split at e
 ·rename_i c
  cases e
  simp only[Bool.and_eq_true,decide_eq_true_eq]at c
  exact d8m hl h om
 ·cases e;exact c4h h
theorem g1n {c:Int} {b:Bool} (e:a9c l c s=(b,s1)) (h:okS l s=true):okS l s1=true:=by
 unfold a9c at e
 cases e
 exact f6o (e0f h)
theorem e5w {fr i:Int} {x:N} (e:a3x l fr x s=some (i,s1)) (h:okS l s=true):okS l s1=true:=by
 unfold a3x at e
 split at e
 ·cases e;exact h
 ·cases e
theorem b3j {g:Q->PS->M} {q:Q} (e:cl l g q s=some (r,s1)):g q s=some (r,s1)/\okS l s1=true:=by
 unfold cl at e
 split at e
 ·rename_i r2 s2 hg
  split at e
  ·rename_i ho;cases e;exact⟨hg,ho⟩
  ·cases e
 ·cases e
theorem i1j {g:Q->PS->M} {q:Q} (e:cl l g q s=some (r,s1)):okS l s1=true:=(b3j e).2
theorem g2g (hl:LOk l) {fr:Int} {x:N} (h:okS l s=true) (e:b0k l fr x s=some (r,s1)):evF (pgL fx F0) a8d [.ptr 0 0,.d (.int .i64 fr),.d (x.D 0 0)] [PB l s,PR s]=some (.d (.int .i64 r.i),[PB l s1,PR s1]):=by
 unfold b0k at e
 split at e
 ·cases e
 ·rename_i i s2 e1
  split at e
  rename_i b s3 e2
  cases e
  refine a0e (b6a (F:=F0)) rfl rfl rfl ?_
  repeat' (first|refine run ⟨?_⟩|refine ca (a1b e1 rfl) ?_|refine ca (a1q (e5w e1 h) e2) ?_|fail)
  exact rfl
theorem e6e (hl:LOk l) {fr:Int} {x:N} {A:D} (hA:A=x.D 0 0) (h:okS l s=true) (e:b0k l fr x s=some (r,s1)):evF (pgL fx F0) a8d [.ptr 0 0,.d (.int .i64 fr),.d A] (PB l s::PR s::X)=some (.d (.int .i64 r.i),PB l s1::PR s1::X):=by
 subst hA;exact lift (g2g hl h e) rfl rfl
theorem a1u (h:okS l s=true) {x:S}:evF (pgL fx F) a5o [.ptr 0 0,.d (.str x)] (PB l s::PR s::X)=some (.tup [],PB l (a1n l x s).2::PR (a1n l x s).2::X):=a1q h rfl
theorem a2i (h:okS l s=true) (hl:l.length<=1000000):evF (pgL fx F) a5m [.ptr 0 0] (PB l s::PR s::X)=some (.d (.str (a2c l s).1),PB l (a2c l s).2::PR (a2c l s).2::X):=a2e h hl rfl
theorem a2a (h:okS l s=true) {x:S}:evF (pgL fx F) a5p [.ptr 0 0,.d (.str x)] (PB l s::PR s::X)=some (.d (.bool (a0y l x s).1),PB l (a0y l x s).2::PR (a0y l x s).2::X):=a1t h rfl
theorem f4t (hl:LOk l) {x:S} (h:okS l s=true):okS l (a1n l x s).2=true:=e6b hl rfl h
theorem f4j (hl:LOk l) (h:okS l s=true):okS l (a2c l s).2=true:=e7d hl rfl h
theorem f3g (hl:LOk l) {x:S} (h:okS l s=true):okS l (a0y l x s).2=true:=f0f hl rfl h
theorem okQ (h:okS l s=true:=by with_reducible (repeat' (first|assumption|exact i1j (by assumption)|refine f0f (by assumption) (by assumption) ?_|refine e6b (by assumption) (by assumption) ?_|refine e7d (by assumption) (by assumption) ?_|refine g1n (by assumption) ?_|refine e5w (by assumption) ?_|refine f4t (by assumption) ?_|refine f4j (by assumption) ?_|refine f3g (by assumption) ?_|refine g0w ?_|refine c4h ?_))):okS l s=true:=h
theorem asm {P:Prop} (h:P:=by with_reducible assumption):P:=h
end
structure Sp (fx:Nat->Option Obj) (l:List TokQ) (n:Nat):Prop where
 typ:∀ {s s1:PS} {r:R},okS l s=true->go l n .typ s=some (r,s1)->evF (pgL fx F0) a6i [.ptr 0 0] [PB l s,PR s]=some (.d (.int .i64 r.i),[PB l s1,PR s1])
 typed:∀ (fr:Int) {s s1:PS} {r:R},okS l s=true->go l n (.typed fr) s=some (r,s1)->evF (pgL fx F0) a4v [.ptr 0 0,.d (.int .i64 fr)] [PB l s,PR s]=some (.d (.int .i64 r.i),[PB l s1,PR s1])
 param:∀ {s s1:PS} {r:R},okS l s=true->go l n .param s=some (r,s1)->evF (pgL fx F0) a4z [.ptr 0 0] [PB l s,PR s]=some (.d (.int .i64 r.i),[PB l s1,PR s1])
 field:∀ {s s1:PS} {r:R},okS l s=true->go l n .field s=some (r,s1)->evF (pgL fx F0) a4y [.ptr 0 0] [PB l s,PR s]=some (.d (.int .i64 r.i),[PB l s1,PR s1])
 variant:∀ {s s1:PS} {r:R},okS l s=true->go l n .variant s=some (r,s1)->evF (pgL fx F0) a3w [.ptr 0 0] [PB l s,PR s]=some (.d (.int .i64 r.i),[PB l s1,PR s1])
 function:∀ {s s1:PS} {r:R},okS l s=true->go l n .function s=some (r,s1)->evF (pgL fx F0) a3m [.ptr 0 0] [PB l s,PR s]=some (.d (.int .i64 r.i),[PB l s1,PR s1])
 parts:∀ (k:Int) {s s1:PS} {r:R},okS l s=true->go l n (.parts k) s=some (r,s1)->evF (pgL fx F0) a4t [.ptr 0 0,.d (.int .i64 k)] [PB l s,PR s]=some (.d (.int .i64 r.i),[PB l s1,PR s1])
 item:∀ {s s1:PS} {r:R},okS l s=true->go l n .item s=some (r,s1)->evF (pgL fx F0) a5l [.ptr 0 0] [PB l s,PR s]=some (.d (.int .i64 r.i),[PB l s1,PR s1])
 block:∀ {s s1:PS} {r:R},okS l s=true->go l n .block s=some (r,s1)->evF (pgL fx F0) a4u [.ptr 0 0] [PB l s,PR s]=some (.d (.int .i64 r.i),[PB l s1,PR s1])
 stmt:∀ {s s1:PS} {r:R},okS l s=true->go l n .stmt s=some (r,s1)->evF (pgL fx F0) a5n [.ptr 0 0] [PB l s,PR s]=some (.tup [.d (.int .i64 r.i),.d (.bool r.b)],[PB l s1,PR s1])
 let_:∀ (fr:Int) {s s1:PS} {r:R},okS l s=true->go l n (.let_ fr) s=some (r,s1)->evF (pgL fx F0) a6o [.ptr 0 0,.d (.int .i64 fr)] [PB l s,PR s]=some (.d (.int .i64 r.i),[PB l s1,PR s1])
 blocky:∀ (fr:Int) {s s1:PS} {r:R},okS l s=true->go l n (.blocky fr) s=some (r,s1)->evF (pgL fx F0) a4e [.ptr 0 0,.d (.int .i64 fr)] [PB l s,PR s]=some (.tup [.d (.int .i64 r.i),.d (.bool r.b)],[PB l s1,PR s1])
 branch:∀ {s s1:PS} {r:R},okS l s=true->go l n .branch s=some (r,s1)->evF (pgL fx F0) a4j [.ptr 0 0] [PB l s,PR s]=some (.d (.int .i64 r.i),[PB l s1,PR s1])
 cond:∀ {s s1:PS} {r:R},okS l s=true->go l n .cond s=some (r,s1)->evF (pgL fx F0) a5f [.ptr 0 0] [PB l s,PR s]=some (.d (.int .i64 r.i),[PB l s1,PR s1])
 match_:∀ {s s1:PS} {r:R},okS l s=true->go l n .match_ s=some (r,s1)->evF (pgL fx F0) a5a [.ptr 0 0] [PB l s,PR s]=some (.d (.int .i64 r.i),[PB l s1,PR s1])
 arm:∀ {s s1:PS} {r:R},okS l s=true->go l n .arm s=some (r,s1)->evF (pgL fx F0) a6c [.ptr 0 0] [PB l s,PR s]=some (.d (.int .i64 r.i),[PB l s1,PR s1])
 pattern:∀ {s s1:PS} {r:R},okS l s=true->go l n .pattern s=some (r,s1)->evF (pgL fx F0) a3y [.ptr 0 0] [PB l s,PR s]=some (.d (.int .i64 r.i),[PB l s1,PR s1])
 patterned:∀ (fr:Int) {s s1:PS} {r:R},okS l s=true->go l n (.patterned fr) s=some (r,s1)->evF (pgL fx F0) a3i [.ptr 0 0,.d (.int .i64 fr)] [PB l s,PR s]=some (.d (.int .i64 r.i),[PB l s1,PR s1])
 expr:∀ (b:Bool) {s s1:PS} {r:R},okS l s=true->go l n (.expr b) s=some (r,s1)->evF (pgL fx F0) a5k [.ptr 0 0,.d (.bool b)] [PB l s,PR s]=some (.d (.int .i64 r.i),[PB l s1,PR s1])
 row:∀ (k:Int) (b:Bool) {s s1:PS} {r:R},okS l s=true->go l n (.row k b) s=some (r,s1)->evF (pgL fx F0) a6g [.ptr 0 0,.d (.int .i64 k),.d (.bool b)] [PB l s,PR s]=some (.d (.int .i64 r.i),[PB l s1,PR s1])
 operand:∀ (b:Bool) {s s1:PS} {r:R},okS l s=true->go l n (.operand b) s=some (r,s1)->evF (pgL fx F0) a4a [.ptr 0 0,.d (.bool b)] [PB l s,PR s]=some (.d (.int .i64 r.i),[PB l s1,PR s1])
 prefix_:∀ (b:Bool) {s s1:PS} {r:R},okS l s=true->go l n (.prefix_ b) s=some (r,s1)->evF (pgL fx F0) a4g [.ptr 0 0,.d (.bool b)] [PB l s,PR s]=some (.d (.int .i64 r.i),[PB l s1,PR s1])
 postfix_:∀ (b:Bool) {s s1:PS} {r:R},okS l s=true->go l n (.postfix_ b) s=some (r,s1)->evF (pgL fx F0) a3z [.ptr 0 0,.d (.bool b)] [PB l s,PR s]=some (.d (.int .i64 r.i),[PB l s1,PR s1])
 primary:∀ (b:Bool) {s s1:PS} {r:R},okS l s=true->go l n (.primary b) s=some (r,s1)->evF (pgL fx F0) a4b [.ptr 0 0,.d (.bool b)] [PB l s,PR s]=some (.d (.int .i64 r.i),[PB l s1,PR s1])
 named:∀ (fr:Int) (b:Bool) {s s1:PS} {r:R},okS l s=true->go l n (.named fr b) s=some (r,s1)->evF (pgL fx F0) a4w [.ptr 0 0,.d (.int .i64 fr),.d (.bool b)] [PB l s,PR s]=some (.d (.int .i64 r.i),[PB l s1,PR s1])
 init:∀ {s s1:PS} {r:R},okS l s=true->go l n .init s=some (r,s1)->evF (pgL fx F0) a5h [.ptr 0 0] [PB l s,PR s]=some (.d (.int .i64 r.i),[PB l s1,PR s1])
section
variable {fx:Nat->Option Obj} {l:List TokQ} {s s1 s2:PS} {X:Hp} {n m:Nat} {r:R}
theorem b8q (IH:∀ m,m<=n->Sp fx l m) (e:cl l (go l m) .typ s=some (r,s1)) (hm:m<=n) (h:okS l s=true):evF (pgL fx F0) a6i [.ptr 0 0] (PB l s::PR s::X)=some (.d (.int .i64 r.i),PB l s1::PR s1::X):=lift ((IH m hm).typ h (b3j e).1) rfl rfl
theorem g2k {fr:Int} (IH:∀ m,m<=n->Sp fx l m) (e:cl l (go l m) (.typed fr) s=some (r,s1)) (hm:m<=n) (h:okS l s=true):evF (pgL fx F0) a4v [.ptr 0 0,.d (.int .i64 fr)] (PB l s::PR s::X)=some (.d (.int .i64 r.i),PB l s1::PR s1::X):=lift ((IH m hm).typed fr h (b3j e).1) rfl rfl
theorem b2o (IH:∀ m,m<=n->Sp fx l m) (e:cl l (go l m) .param s=some (r,s1)) (hm:m<=n) (h:okS l s=true):evF (pgL fx F0) a4z [.ptr 0 0] (PB l s::PR s::X)=some (.d (.int .i64 r.i),PB l s1::PR s1::X):=lift ((IH m hm).param h (b3j e).1) rfl rfl
theorem d8a (IH:∀ m,m<=n->Sp fx l m) (e:cl l (go l m) .field s=some (r,s1)) (hm:m<=n) (h:okS l s=true):evF (pgL fx F0) a4y [.ptr 0 0] (PB l s::PR s::X)=some (.d (.int .i64 r.i),PB l s1::PR s1::X):=lift ((IH m hm).field h (b3j e).1) rfl rfl
theorem c3s (IH:∀ m,m<=n->Sp fx l m) (e:cl l (go l m) .variant s=some (r,s1)) (hm:m<=n) (h:okS l s=true):evF (pgL fx F0) a3w [.ptr 0 0] (PB l s::PR s::X)=some (.d (.int .i64 r.i),PB l s1::PR s1::X):=lift ((IH m hm).variant h (b3j e).1) rfl rfl
theorem e4y (IH:∀ m,m<=n->Sp fx l m) (e:cl l (go l m) .function s=some (r,s1)) (hm:m<=n) (h:okS l s=true):evF (pgL fx F0) a3m [.ptr 0 0] (PB l s::PR s::X)=some (.d (.int .i64 r.i),PB l s1::PR s1::X):=lift ((IH m hm).function h (b3j e).1) rfl rfl
theorem g2u {k:Int} (IH:∀ m,m<=n->Sp fx l m) (e:cl l (go l m) (.parts k) s=some (r,s1)) (hm:m<=n) (h:okS l s=true):evF (pgL fx F0) a4t [.ptr 0 0,.d (.int .i64 k)] (PB l s::PR s::X)=some (.d (.int .i64 r.i),PB l s1::PR s1::X):=lift ((IH m hm).parts k h (b3j e).1) rfl rfl
theorem f9c (IH:∀ m,m<=n->Sp fx l m) (e:cl l (go l m) .item s=some (r,s1)) (hm:m<=n) (h:okS l s=true):evF (pgL fx F0) a5l [.ptr 0 0] (PB l s::PR s::X)=some (.d (.int .i64 r.i),PB l s1::PR s1::X):=lift ((IH m hm).item h (b3j e).1) rfl rfl
theorem a5j (IH:∀ m,m<=n->Sp fx l m) (e:cl l (go l m) .block s=some (r,s1)) (hm:m<=n) (h:okS l s=true):evF (pgL fx F0) a4u [.ptr 0 0] (PB l s::PR s::X)=some (.d (.int .i64 r.i),PB l s1::PR s1::X):=lift ((IH m hm).block h (b3j e).1) rfl rfl
theorem e0g (IH:∀ m,m<=n->Sp fx l m) (e:cl l (go l m) .stmt s=some (r,s1)) (hm:m<=n) (h:okS l s=true):evF (pgL fx F0) a5n [.ptr 0 0] (PB l s::PR s::X)=some (.tup [.d (.int .i64 r.i),.d (.bool r.b)],PB l s1::PR s1::X):=lift ((IH m hm).stmt h (b3j e).1) rfl rfl
theorem g8v {fr:Int} (IH:∀ m,m<=n->Sp fx l m) (e:cl l (go l m) (.let_ fr) s=some (r,s1)) (hm:m<=n) (h:okS l s=true):evF (pgL fx F0) a6o [.ptr 0 0,.d (.int .i64 fr)] (PB l s::PR s::X)=some (.d (.int .i64 r.i),PB l s1::PR s1::X):=lift ((IH m hm).let_ fr h (b3j e).1) rfl rfl
theorem f5p {fr:Int} (IH:∀ m,m<=n->Sp fx l m) (e:cl l (go l m) (.blocky fr) s=some (r,s1)) (hm:m<=n) (h:okS l s=true):evF (pgL fx F0) a4e [.ptr 0 0,.d (.int .i64 fr)] (PB l s::PR s::X)=some (.tup [.d (.int .i64 r.i),.d (.bool r.b)],PB l s1::PR s1::X):=lift ((IH m hm).blocky fr h (b3j e).1) rfl rfl
theorem d9n (IH:∀ m,m<=n->Sp fx l m) (e:cl l (go l m) .branch s=some (r,s1)) (hm:m<=n) (h:okS l s=true):evF (pgL fx F0) a4j [.ptr 0 0] (PB l s::PR s::X)=some (.d (.int .i64 r.i),PB l s1::PR s1::X):=lift ((IH m hm).branch h (b3j e).1) rfl rfl
theorem f7q (IH:∀ m,m<=n->Sp fx l m) (e:cl l (go l m) .cond s=some (r,s1)) (hm:m<=n) (h:okS l s=true):evF (pgL fx F0) a5f [.ptr 0 0] (PB l s::PR s::X)=some (.d (.int .i64 r.i),PB l s1::PR s1::X):=lift ((IH m hm).cond h (b3j e).1) rfl rfl
theorem f3r (IH:∀ m,m<=n->Sp fx l m) (e:cl l (go l m) .match_ s=some (r,s1)) (hm:m<=n) (h:okS l s=true):evF (pgL fx F0) a5a [.ptr 0 0] (PB l s::PR s::X)=some (.d (.int .i64 r.i),PB l s1::PR s1::X):=lift ((IH m hm).match_ h (b3j e).1) rfl rfl
theorem g0s (IH:∀ m,m<=n->Sp fx l m) (e:cl l (go l m) .arm s=some (r,s1)) (hm:m<=n) (h:okS l s=true):evF (pgL fx F0) a6c [.ptr 0 0] (PB l s::PR s::X)=some (.d (.int .i64 r.i),PB l s1::PR s1::X):=lift ((IH m hm).arm h (b3j e).1) rfl rfl
theorem d5m (IH:∀ m,m<=n->Sp fx l m) (e:cl l (go l m) .pattern s=some (r,s1)) (hm:m<=n) (h:okS l s=true):evF (pgL fx F0) a3y [.ptr 0 0] (PB l s::PR s::X)=some (.d (.int .i64 r.i),PB l s1::PR s1::X):=lift ((IH m hm).pattern h (b3j e).1) rfl rfl
theorem d6y {fr:Int} (IH:∀ m,m<=n->Sp fx l m) (e:cl l (go l m) (.patterned fr) s=some (r,s1)) (hm:m<=n) (h:okS l s=true):evF (pgL fx F0) a3i [.ptr 0 0,.d (.int .i64 fr)] (PB l s::PR s::X)=some (.d (.int .i64 r.i),PB l s1::PR s1::X):=lift ((IH m hm).patterned fr h (b3j e).1) rfl rfl
theorem a7t {b:Bool} (IH:∀ m,m<=n->Sp fx l m) (e:cl l (go l m) (.expr b) s=some (r,s1)) (hm:m<=n) (h:okS l s=true):evF (pgL fx F0) a5k [.ptr 0 0,.d (.bool b)] (PB l s::PR s::X)=some (.d (.int .i64 r.i),PB l s1::PR s1::X):=lift ((IH m hm).expr b h (b3j e).1) rfl rfl
theorem d1i {k:Int} {b:Bool} (IH:∀ m,m<=n->Sp fx l m) (e:cl l (go l m) (.row k b) s=some (r,s1)) (hm:m<=n) (h:okS l s=true):evF (pgL fx F0) a6g [.ptr 0 0,.d (.int .i64 k),.d (.bool b)] (PB l s::PR s::X)=some (.d (.int .i64 r.i),PB l s1::PR s1::X):=lift ((IH m hm).row k b h (b3j e).1) rfl rfl
theorem e9b {b:Bool} (IH:∀ m,m<=n->Sp fx l m) (e:cl l (go l m) (.operand b) s=some (r,s1)) (hm:m<=n) (h:okS l s=true):evF (pgL fx F0) a4a [.ptr 0 0,.d (.bool b)] (PB l s::PR s::X)=some (.d (.int .i64 r.i),PB l s1::PR s1::X):=lift ((IH m hm).operand b h (b3j e).1) rfl rfl
theorem a9t {b:Bool} (IH:∀ m,m<=n->Sp fx l m) (e:cl l (go l m) (.prefix_ b) s=some (r,s1)) (hm:m<=n) (h:okS l s=true):evF (pgL fx F0) a4g [.ptr 0 0,.d (.bool b)] (PB l s::PR s::X)=some (.d (.int .i64 r.i),PB l s1::PR s1::X):=lift ((IH m hm).prefix_ b h (b3j e).1) rfl rfl
theorem e5a {b:Bool} (IH:∀ m,m<=n->Sp fx l m) (e:cl l (go l m) (.postfix_ b) s=some (r,s1)) (hm:m<=n) (h:okS l s=true):evF (pgL fx F0) a3z [.ptr 0 0,.d (.bool b)] (PB l s::PR s::X)=some (.d (.int .i64 r.i),PB l s1::PR s1::X):=lift ((IH m hm).postfix_ b h (b3j e).1) rfl rfl
theorem c5s {b:Bool} (IH:∀ m,m<=n->Sp fx l m) (e:cl l (go l m) (.primary b) s=some (r,s1)) (hm:m<=n) (h:okS l s=true):evF (pgL fx F0) a4b [.ptr 0 0,.d (.bool b)] (PB l s::PR s::X)=some (.d (.int .i64 r.i),PB l s1::PR s1::X):=lift ((IH m hm).primary b h (b3j e).1) rfl rfl
theorem g1g {fr:Int} {b:Bool} (IH:∀ m,m<=n->Sp fx l m) (e:cl l (go l m) (.named fr b) s=some (r,s1)) (hm:m<=n) (h:okS l s=true):evF (pgL fx F0) a4w [.ptr 0 0,.d (.int .i64 fr),.d (.bool b)] (PB l s::PR s::X)=some (.d (.int .i64 r.i),PB l s1::PR s1::X):=lift ((IH m hm).named fr b h (b3j e).1) rfl rfl
theorem c1v (IH:∀ m,m<=n->Sp fx l m) (e:cl l (go l m) .init s=some (r,s1)) (hm:m<=n) (h:okS l s=true):evF (pgL fx F0) a5h [.ptr 0 0] (PB l s::PR s::X)=some (.d (.int .i64 r.i),PB l s1::PR s1::X):=lift ((IH m hm).init h (b3j e).1) rfl rfl
end
end Go.Vm.Ite
namespace Go.Vm.Ite
open Go.Vm.Lex (TokQ)
open Go.Vm.Pa
set_option maxHeartbeats 4000000
section
variable {fx:Nat->Option Obj} {l:List TokQ} {s s1 s2:PS} {n:Nat} {r:R}
theorem i0l (hl:LOk l) (IH:∀ m,m<=n->Sp fx l m) (hs:okS l s=true) (h:go l (n+1) .typ s=some (r,s1)):evF (pgL fx F0) a6i [.ptr 0 0] [PB l s,PR s]=some (.d (.int .i64 r.i),[PB l s1,PR s1]):=by
 change Go.Vm.Pa.step l (go l n) .typ s=_ at h
 simp only[Go.Vm.Pa.step,Go.Vm.Pa.mk,Go.Vm.Pa.ret,Go.Vm.Pa.a8x,Go.Vm.Pa.deeper,Go.Vm.Pa.step.newS,Go.Vm.Pa.step.numS,Go.Vm.Pa.step.pickS]at h
 repeat' (first|(cases h;done)|split at h)
 all_goals(try(simp only[Option.some.injEq,Prod.mk.injEq]at h;obtain⟨rfl,rfl⟩:=h))
 all_goals
  refine a0e (b9b (F:=F0)) rfl rfl rfl ?_
  repeat' (first|refine a2q ⟨?_⟩|refine ca (b8p okQ asm) ?_|refine ca (g2k IH asm om okQ) ?_|refine a0a 3 (by decide) (by decide) ?_|fail)
  exact rfl
theorem g4f {fr:Int} (hl:LOk l) (IH:∀ m,m<=n->Sp fx l m) (hs:okS l s=true) (h:go l (n+1) (.typed fr) s=some (r,s1)):evF (pgL fx F0) a4v [.ptr 0 0,.d (.int .i64 fr)] [PB l s,PR s]=some (.d (.int .i64 r.i),[PB l s1,PR s1]):=by
 change Go.Vm.Pa.step l (go l n) (.typed fr) s=_ at h
 simp only[Go.Vm.Pa.step,Go.Vm.Pa.mk,Go.Vm.Pa.ret,Go.Vm.Pa.a8x,Go.Vm.Pa.deeper,Go.Vm.Pa.step.newS,Go.Vm.Pa.step.numS,Go.Vm.Pa.step.pickS]at h
 repeat' (first|(cases h;done)|split at h)
 all_goals(try(simp only[Option.some.injEq,Prod.mk.injEq]at h;obtain⟨rfl,rfl⟩:=h))
 all_goals
  refine a0e (b6c (F:=F0)) rfl rfl rfl ?_
  repeat' (first|refine a2q ⟨?_⟩|refine ca (a1t okQ asm) ?_|refine ca (a2a okQ) ?_|refine ca (a1b asm rfl) ?_|refine ca (a1q okQ asm) ?_|refine ca (a1u okQ) ?_|refine ca (b8q IH asm om okQ) ?_|refine ca (a2e okQ hl.len asm) ?_|refine ca (a2i okQ hl.len) ?_|refine a0a 3 (by decide) (by decide) ?_|fail)
  exact rfl
theorem g2h (hl:LOk l) (IH:∀ m,m<=n->Sp fx l m) (hs:okS l s=true) (h:go l (n+1) .param s=some (r,s1)):evF (pgL fx F0) a4z [.ptr 0 0] [PB l s,PR s]=some (.d (.int .i64 r.i),[PB l s1,PR s1]):=by
 change Go.Vm.Pa.step l (go l n) .param s=_ at h
 simp only[Go.Vm.Pa.step,Go.Vm.Pa.mk,Go.Vm.Pa.ret,Go.Vm.Pa.a8x,Go.Vm.Pa.deeper,Go.Vm.Pa.step.newS,Go.Vm.Pa.step.numS,Go.Vm.Pa.step.pickS]at h
 repeat' (first|(cases h;done)|split at h)
 all_goals(try(simp only[Option.some.injEq,Prod.mk.injEq]at h;obtain⟨rfl,rfl⟩:=h))
 all_goals
  refine a0e (b5z (F:=F0)) rfl rfl rfl ?_
  repeat' (first|refine a2q ⟨?_⟩|refine ca (a1t okQ asm) ?_|refine ca (a2a okQ) ?_|refine ca (a2e okQ hl.len asm) ?_|refine ca (a2i okQ hl.len) ?_|refine ca (a1q okQ asm) ?_|refine ca (a1u okQ) ?_|refine ca (b8q IH asm om okQ) ?_|refine ca (a1b asm rfl) ?_|refine a0a 3 (by decide) (by decide) ?_|fail)
  exact rfl
theorem g3u (hl:LOk l) (IH:∀ m,m<=n->Sp fx l m) (hs:okS l s=true) (h:go l (n+1) .field s=some (r,s1)):evF (pgL fx F0) a4y [.ptr 0 0] [PB l s,PR s]=some (.d (.int .i64 r.i),[PB l s1,PR s1]):=by
 change Go.Vm.Pa.step l (go l n) .field s=_ at h
 simp only[Go.Vm.Pa.step,Go.Vm.Pa.mk,Go.Vm.Pa.ret,Go.Vm.Pa.a8x,Go.Vm.Pa.deeper,Go.Vm.Pa.step.newS,Go.Vm.Pa.step.numS,Go.Vm.Pa.step.pickS]at h
 repeat' (first|(cases h;done)|split at h)
 all_goals(try(simp only[Option.some.injEq,Prod.mk.injEq]at h;obtain⟨rfl,rfl⟩:=h))
 all_goals
  refine a0e (b5n (F:=F0)) rfl rfl rfl ?_
  repeat' (first|refine a2q ⟨?_⟩|refine ca (a2e okQ hl.len asm) ?_|refine ca (a2i okQ hl.len) ?_|refine ca (a1q okQ asm) ?_|refine ca (a1u okQ) ?_|refine ca (b8q IH asm om okQ) ?_|refine ca (a1b asm rfl) ?_|refine a0a 3 (by decide) (by decide) ?_|fail)
  exact rfl
theorem f1o (hl:LOk l) (IH:∀ m,m<=n->Sp fx l m) (hs:okS l s=true) (h:go l (n+1) .variant s=some (r,s1)):evF (pgL fx F0) a3w [.ptr 0 0] [PB l s,PR s]=some (.d (.int .i64 r.i),[PB l s1,PR s1]):=by
 change Go.Vm.Pa.step l (go l n) .variant s=_ at h
 simp only[Go.Vm.Pa.step,Go.Vm.Pa.mk,Go.Vm.Pa.ret,Go.Vm.Pa.a8x,Go.Vm.Pa.deeper,Go.Vm.Pa.step.newS,Go.Vm.Pa.step.numS,Go.Vm.Pa.step.pickS]at h
 repeat' (first|(cases h;done)|split at h)
 all_goals(try(simp only[Option.some.injEq,Prod.mk.injEq]at h;obtain⟨rfl,rfl⟩:=h))
 all_goals
  refine a0e (b3a (F:=F0)) rfl rfl rfl ?_
  repeat' (first|refine a2q ⟨?_⟩|refine ca (a2e okQ hl.len asm) ?_|refine ca (a2i okQ hl.len) ?_|refine ca (a1t okQ asm) ?_|refine ca (a2a okQ) ?_|refine ca (b8q IH asm om okQ) ?_|refine ca (a1q okQ asm) ?_|refine ca (a1u okQ) ?_|refine ca (a1b asm rfl) ?_|refine a0a 3 (by decide) (by decide) ?_|fail)
  exact rfl
end
end Go.Vm.Ite
namespace Go.Vm.Ite
open Go.Vm.Lex (TokQ)
open Go.Vm.Pa
set_option maxHeartbeats 4000000
section
variable {fx:Nat->Option Obj} {l:List TokQ} {s s1 s2:PS} {n:Nat} {r:R}
theorem g7l (hl:LOk l) (IH:∀ m,m<=n->Sp fx l m) (hs:okS l s=true) (h:go l (n+1) .item s=some (r,s1)):evF (pgL fx F0) a5l [.ptr 0 0] [PB l s,PR s]=some (.d (.int .i64 r.i),[PB l s1,PR s1]):=by
 change Go.Vm.Pa.step l (go l n) .item s=_ at h
 simp only[Go.Vm.Pa.step,Go.Vm.Pa.mk,Go.Vm.Pa.ret,Go.Vm.Pa.a8x,Go.Vm.Pa.deeper,Go.Vm.Pa.step.newS,Go.Vm.Pa.step.numS,Go.Vm.Pa.step.pickS]at h
 repeat' (first|(cases h;done)|split at h)
 all_goals(try(simp only[Option.some.injEq,Prod.mk.injEq]at h;obtain⟨rfl,rfl⟩:=h))
 all_goals
  refine a0e (b7v (F:=F0)) rfl rfl rfl ?_
  repeat' (first|refine a2q ⟨?_⟩|refine ca (b0y okQ asm) ?_|refine ca (g2u IH asm om okQ) ?_|refine ca (e4y IH asm om okQ) ?_|refine a0a 3 (by decide) (by decide) ?_|fail)
  exact rfl
theorem h0s (hl:LOk l) (IH:∀ m,m<=n->Sp fx l m) (hs:okS l s=true) (h:go l (n+1) .stmt s=some (r,s1)):evF (pgL fx F0) a5n [.ptr 0 0] [PB l s,PR s]=some (.tup [.d (.int .i64 r.i),.d (.bool r.b)],[PB l s1,PR s1]):=by
 change Go.Vm.Pa.step l (go l n) .stmt s=_ at h
 simp only[Go.Vm.Pa.step,Go.Vm.Pa.mk,Go.Vm.Pa.ret,Go.Vm.Pa.a8x,Go.Vm.Pa.deeper,Go.Vm.Pa.step.newS,Go.Vm.Pa.step.numS,Go.Vm.Pa.step.pickS]at h
 repeat' (first|(cases h;done)|split at h)
 all_goals(try(simp only[Option.some.injEq,Prod.mk.injEq]at h;obtain⟨rfl,rfl⟩:=h))
 all_goals
  refine a0e (b6w (F:=F0)) rfl rfl rfl ?_
  repeat' (first|refine a2q ⟨?_⟩|refine ca (b0y okQ asm) ?_|refine ca (g8v IH asm om okQ) ?_|refine ca (a1t okQ asm) ?_|refine ca (a2a okQ) ?_|refine ca (a7t IH asm om okQ) ?_|refine ca (a5j IH asm om okQ) ?_|refine ca (a1b asm rfl) ?_|refine ca (e6e hl rfl okQ asm) ?_|refine ca (f5p IH asm om okQ) ?_|refine a0a 3 (by decide) (by decide) ?_|fail)
  exact rfl
theorem h1r {fr:Int} (hl:LOk l) (IH:∀ m,m<=n->Sp fx l m) (hs:okS l s=true) (h:go l (n+1) (.let_ fr) s=some (r,s1)):evF (pgL fx F0) a6o [.ptr 0 0,.d (.int .i64 fr)] [PB l s,PR s]=some (.d (.int .i64 r.i),[PB l s1,PR s1]):=by
 change Go.Vm.Pa.step l (go l n) (.let_ fr) s=_ at h
 simp only[Go.Vm.Pa.step,Go.Vm.Pa.mk,Go.Vm.Pa.ret,Go.Vm.Pa.a8x,Go.Vm.Pa.deeper,Go.Vm.Pa.step.newS,Go.Vm.Pa.step.numS,Go.Vm.Pa.step.pickS]at h
 repeat' (first|(cases h;done)|split at h)
 all_goals(try(simp only[Option.some.injEq,Prod.mk.injEq]at h;obtain⟨rfl,rfl⟩:=h))
 all_goals
  refine a0e (b8e (F:=F0)) rfl rfl rfl ?_
  repeat' (first|refine a2q ⟨?_⟩|refine And.intro ⟨rfl,by decide⟩ ?_|refine Exists.intro _ (Exists.intro _ (And.intro rfl (And.intro rfl ?_)))|refine And.intro ⟨rfl,rfl,f9k⟩ ?_|refine And.intro ⟨rfl,rfl,f9e⟩ ?_|refine ca (a1q okQ asm) ?_|refine ca (a1u okQ) ?_|refine ca (a1t okQ asm) ?_|refine ca (a2a okQ) ?_|refine ca (a2e okQ hl.len asm) ?_|refine ca (a2i okQ hl.len) ?_|refine ca (b8q IH asm om okQ) ?_|refine ca (a7t IH asm om okQ) ?_|refine ca (e6e hl rfl okQ asm) ?_|refine a0a 3 (by decide) (by decide) ?_|fail)
  exact rfl
theorem f7j {fr:Int} (hl:LOk l) (IH:∀ m,m<=n->Sp fx l m) (hs:okS l s=true) (h:go l (n+1) (.blocky fr) s=some (r,s1)):evF (pgL fx F0) a4e [.ptr 0 0,.d (.int .i64 fr)] [PB l s,PR s]=some (.tup [.d (.int .i64 r.i),.d (.bool r.b)],[PB l s1,PR s1]):=by
 change Go.Vm.Pa.step l (go l n) (.blocky fr) s=_ at h
 simp only[Go.Vm.Pa.step,Go.Vm.Pa.mk,Go.Vm.Pa.ret,Go.Vm.Pa.a8x,Go.Vm.Pa.deeper,Go.Vm.Pa.step.newS,Go.Vm.Pa.step.numS,Go.Vm.Pa.step.pickS]at h
 repeat' (first|(cases h;done)|split at h)
 all_goals(try(simp only[Option.some.injEq,Prod.mk.injEq]at h;obtain⟨rfl,rfl⟩:=h))
 all_goals
  refine a0e (b4p (F:=F0)) rfl rfl rfl ?_
  repeat' (first|refine a2q ⟨?_⟩|refine ca (d9n IH asm om okQ) ?_|refine ca (b0y okQ asm) ?_|refine ca (a1b asm rfl) ?_|refine ca (a1t okQ asm) ?_|refine ca (a2a okQ) ?_|refine a0a 3 (by decide) (by decide) ?_|fail)
  exact rfl
theorem f4a (hl:LOk l) (IH:∀ m,m<=n->Sp fx l m) (hs:okS l s=true) (h:go l (n+1) .branch s=some (r,s1)):evF (pgL fx F0) a4j [.ptr 0 0] [PB l s,PR s]=some (.d (.int .i64 r.i),[PB l s1,PR s1]):=by
 change Go.Vm.Pa.step l (go l n) .branch s=_ at h
 simp only[Go.Vm.Pa.step,Go.Vm.Pa.mk,Go.Vm.Pa.ret,Go.Vm.Pa.a8x,Go.Vm.Pa.deeper,Go.Vm.Pa.step.newS,Go.Vm.Pa.step.numS,Go.Vm.Pa.step.pickS]at h
 repeat' (first|(cases h;done)|split at h)
 all_goals(try(simp only[Option.some.injEq,Prod.mk.injEq]at h;obtain⟨rfl,rfl⟩:=h))
 all_goals
  refine a0e (b4s (F:=F0)) rfl rfl rfl ?_
  repeat' (first|refine a2q ⟨?_⟩|refine ca (b0y okQ asm) ?_|refine ca (f7q IH asm om okQ) ?_|refine ca (f3r IH asm om okQ) ?_|refine ca (a5j IH asm om okQ) ?_|refine a0a 3 (by decide) (by decide) ?_|fail)
  exact rfl
theorem h3j (hl:LOk l) (IH:∀ m,m<=n->Sp fx l m) (hs:okS l s=true) (h:go l (n+1) .cond s=some (r,s1)):evF (pgL fx F0) a5f [.ptr 0 0] [PB l s,PR s]=some (.d (.int .i64 r.i),[PB l s1,PR s1]):=by
 change Go.Vm.Pa.step l (go l n) .cond s=_ at h
 simp only[Go.Vm.Pa.step,Go.Vm.Pa.mk,Go.Vm.Pa.ret,Go.Vm.Pa.a8x,Go.Vm.Pa.deeper,Go.Vm.Pa.step.newS,Go.Vm.Pa.step.numS,Go.Vm.Pa.step.pickS]at h
 repeat' (first|(cases h;done)|split at h)
 all_goals(try(simp only[Option.some.injEq,Prod.mk.injEq]at h;obtain⟨rfl,rfl⟩:=h))
 all_goals
  refine a0e (b7r (F:=F0)) rfl rfl rfl ?_
  repeat' (first|refine a2q ⟨?_⟩|refine And.intro ⟨rfl,by decide⟩ ?_|refine Exists.intro _ (Exists.intro _ (And.intro rfl (And.intro rfl ?_)))|refine And.intro ⟨rfl,rfl,f9k⟩ ?_|refine And.intro ⟨rfl,rfl,f9e⟩ ?_|refine ca (a1q okQ asm) ?_|refine ca (a1u okQ) ?_|refine ca (a7t IH asm om okQ) ?_|refine ca (a5j IH asm om okQ) ?_|refine ca (a1t okQ asm) ?_|refine ca (a2a okQ) ?_|refine ca (b0y okQ asm) ?_|refine ca (b8p okQ asm) ?_|refine ca (f7q IH asm om okQ) ?_|refine ca (a1b asm rfl) ?_|refine a0a 3 (by decide) (by decide) ?_|fail)
  exact rfl
end
end Go.Vm.Ite
namespace Go.Vm.Ite
open Go.Vm.Lex (TokQ)
open Go.Vm.Pa
set_option maxHeartbeats 4000000
section
variable {fx:Nat->Option Obj} {l:List TokQ} {s s1 s2:PS} {n:Nat} {r:R}
theorem i3g (hl:LOk l) (IH:∀ m,m<=n->Sp fx l m) (hs:okS l s=true) (h:go l (n+1) .arm s=some (r,s1)):evF (pgL fx F0) a6c [.ptr 0 0] [PB l s,PR s]=some (.d (.int .i64 r.i),[PB l s1,PR s1]):=by
 change Go.Vm.Pa.step l (go l n) .arm s=_ at h
 simp only[Go.Vm.Pa.step,Go.Vm.Pa.mk,Go.Vm.Pa.ret,Go.Vm.Pa.a8x,Go.Vm.Pa.deeper,Go.Vm.Pa.step.newS,Go.Vm.Pa.step.numS,Go.Vm.Pa.step.pickS]at h
 repeat' (first|(cases h;done)|split at h)
 all_goals(try(simp only[Option.some.injEq,Prod.mk.injEq]at h;obtain⟨rfl,rfl⟩:=h))
 all_goals
  refine a0e (b9l (F:=F0)) rfl rfl rfl ?_
  repeat' (first|refine a2q ⟨?_⟩|refine ca (d5m IH asm om okQ) ?_|refine ca (a1q okQ asm) ?_|refine ca (a1u okQ) ?_|refine ca (b0y okQ asm) ?_|refine ca (a5j IH asm om okQ) ?_|refine ca (a1b asm rfl) ?_|refine ca (a1t okQ asm) ?_|refine ca (a2a okQ) ?_|refine ca (a7t IH asm om okQ) ?_|refine a0a 3 (by decide) (by decide) ?_|fail)
  exact rfl
theorem f1w (hl:LOk l) (IH:∀ m,m<=n->Sp fx l m) (hs:okS l s=true) (h:go l (n+1) .pattern s=some (r,s1)):evF (pgL fx F0) a3y [.ptr 0 0] [PB l s,PR s]=some (.d (.int .i64 r.i),[PB l s1,PR s1]):=by
 change Go.Vm.Pa.step l (go l n) .pattern s=_ at h
 simp only[Go.Vm.Pa.step,Go.Vm.Pa.mk,Go.Vm.Pa.ret,Go.Vm.Pa.a8x,Go.Vm.Pa.deeper,Go.Vm.Pa.step.newS,Go.Vm.Pa.step.numS,Go.Vm.Pa.step.pickS]at h
 repeat' (first|(cases h;done)|split at h)
 all_goals(try(simp only[Option.some.injEq,Prod.mk.injEq]at h;obtain⟨rfl,rfl⟩:=h))
 all_goals
  refine a0e (b2w (F:=F0)) rfl rfl rfl ?_
  repeat' (first|refine a2q ⟨?_⟩|refine ca (b8p okQ asm) ?_|refine ca (d6y IH asm om okQ) ?_|refine a0a 3 (by decide) (by decide) ?_|fail)
  exact rfl
theorem d8i {fr:Int} (hl:LOk l) (IH:∀ m,m<=n->Sp fx l m) (hs:okS l s=true) (h:go l (n+1) (.patterned fr) s=some (r,s1)):evF (pgL fx F0) a3i [.ptr 0 0,.d (.int .i64 fr)] [PB l s,PR s]=some (.d (.int .i64 r.i),[PB l s1,PR s1]):=by
 change Go.Vm.Pa.step l (go l n) (.patterned fr) s=_ at h
 simp only[Go.Vm.Pa.step,Go.Vm.Pa.mk,Go.Vm.Pa.ret,Go.Vm.Pa.a8x,Go.Vm.Pa.deeper,Go.Vm.Pa.step.newS,Go.Vm.Pa.step.numS,Go.Vm.Pa.step.pickS]at h
 repeat' (first|(cases h;done)|split at h)
 all_goals(try(simp only[Option.some.injEq,Prod.mk.injEq]at h;obtain⟨rfl,rfl⟩:=h))
 all_goals
  refine a0e (b1h (F:=F0)) rfl rfl rfl ?_
  repeat' (first|refine a2q ⟨?_⟩|refine And.intro (i2i hl) ?_|refine And.intro (i1x hl) ?_|refine ca (a1t okQ asm) ?_|refine ca (a2a okQ) ?_|refine ca (a1b asm rfl) ?_|refine ca (b0y okQ asm) ?_|refine ca (b6r okQ) ?_|refine ca (c1x okQ) ?_|refine ca (a2e okQ hl.len asm) ?_|refine ca (a2i okQ hl.len) ?_|refine ca (d5m IH asm om okQ) ?_|refine ca (a1q okQ asm) ?_|refine ca (a1u okQ) ?_|refine a0a 3 (by decide) (by decide) ?_|fail)
  exact rfl
theorem g8a {b:Bool} (hl:LOk l) (IH:∀ m,m<=n->Sp fx l m) (hs:okS l s=true) (h:go l (n+1) (.expr b) s=some (r,s1)):evF (pgL fx F0) a5k [.ptr 0 0,.d (.bool b)] [PB l s,PR s]=some (.d (.int .i64 r.i),[PB l s1,PR s1]):=by
 change Go.Vm.Pa.step l (go l n) (.expr b) s=_ at h
 simp only[Go.Vm.Pa.step,Go.Vm.Pa.mk,Go.Vm.Pa.ret,Go.Vm.Pa.a8x,Go.Vm.Pa.deeper,Go.Vm.Pa.step.newS,Go.Vm.Pa.step.numS,Go.Vm.Pa.step.pickS]at h
 repeat' (first|(cases h;done)|split at h)
 all_goals(try(simp only[Option.some.injEq,Prod.mk.injEq]at h;obtain⟨rfl,rfl⟩:=h))
 all_goals
  refine a0e (b7u (F:=F0)) rfl rfl rfl ?_
  repeat' (first|refine a2q ⟨?_⟩|refine ca (b8p okQ asm) ?_|refine ca (d1i IH asm om okQ) ?_|refine a0a 3 (by decide) (by decide) ?_|fail)
  exact rfl
theorem e8y {b:Bool} (hl:LOk l) (IH:∀ m,m<=n->Sp fx l m) (hs:okS l s=true) (h:go l (n+1) (.operand b) s=some (r,s1)):evF (pgL fx F0) a4a [.ptr 0 0,.d (.bool b)] [PB l s,PR s]=some (.d (.int .i64 r.i),[PB l s1,PR s1]):=by
 change Go.Vm.Pa.step l (go l n) (.operand b) s=_ at h
 simp only[Go.Vm.Pa.step,Go.Vm.Pa.mk,Go.Vm.Pa.ret,Go.Vm.Pa.a8x,Go.Vm.Pa.deeper,Go.Vm.Pa.step.newS,Go.Vm.Pa.step.numS,Go.Vm.Pa.step.pickS]at h
 repeat' (first|(cases h;done)|split at h)
 all_goals(try(simp only[Option.some.injEq,Prod.mk.injEq]at h;obtain⟨rfl,rfl⟩:=h))
 all_goals
  refine a0e (b2y (F:=F0)) rfl rfl rfl ?_
  repeat' (first|refine a2q ⟨?_⟩|refine ca (b8p okQ asm) ?_|refine ca (a9t IH asm om okQ) ?_|refine a0a 3 (by decide) (by decide) ?_|fail)
  exact rfl
end
end Go.Vm.Ite
namespace Go.Vm.Ite
open Go.Vm.Lex (TokQ)
open Go.Vm.Pa
set_option maxHeartbeats 4000000
section
variable {fx:Nat->Option Obj} {l:List TokQ} {s s1 s2:PS} {n:Nat} {r:R}
theorem e6r {b:Bool} (hl:LOk l) (IH:∀ m,m<=n->Sp fx l m) (hs:okS l s=true) (h:go l (n+1) (.prefix_ b) s=some (r,s1)):evF (pgL fx F0) a4g [.ptr 0 0,.d (.bool b)] [PB l s,PR s]=some (.d (.int .i64 r.i),[PB l s1,PR s1]):=by
 change Go.Vm.Pa.step l (go l n) (.prefix_ b) s=_ at h
 simp only[Go.Vm.Pa.step,Go.Vm.Pa.mk,Go.Vm.Pa.ret,Go.Vm.Pa.a8x,Go.Vm.Pa.deeper,Go.Vm.Pa.step.newS,Go.Vm.Pa.step.numS,Go.Vm.Pa.step.pickS]at h
 repeat' (first|(cases h;done)|split at h)
 all_goals(try(simp only[Option.some.injEq,Prod.mk.injEq]at h;obtain⟨rfl,rfl⟩:=h))
 all_goals
  refine a0e (b3n (F:=F0)) rfl rfl rfl ?_
  repeat' (first|refine a2q ⟨?_⟩|refine ca (a1t okQ asm) ?_|refine ca (a2a okQ) ?_|refine ca (e5a IH asm om okQ) ?_|refine ca (e9b IH asm om okQ) ?_|refine ca (a1b asm rfl) ?_|refine a0a 3 (by decide) (by decide) ?_|fail)
  exact rfl
theorem e6h {b:Bool} (hl:LOk l) (IH:∀ m,m<=n->Sp fx l m) (hs:okS l s=true) (h:go l (n+1) (.primary b) s=some (r,s1)):evF (pgL fx F0) a4b [.ptr 0 0,.d (.bool b)] [PB l s,PR s]=some (.d (.int .i64 r.i),[PB l s1,PR s1]):=by
 change Go.Vm.Pa.step l (go l n) (.primary b) s=_ at h
 simp only[Go.Vm.Pa.step,Go.Vm.Pa.mk,Go.Vm.Pa.ret,Go.Vm.Pa.a8x,Go.Vm.Pa.deeper,Go.Vm.Pa.step.newS,Go.Vm.Pa.step.numS,Go.Vm.Pa.step.pickS]at h
 repeat' (first|(cases h;done)|split at h)
 all_goals(try(simp only[Option.some.injEq,Prod.mk.injEq]at h;obtain⟨rfl,rfl⟩:=h))
 all_goals
  refine a0e (b3g (F:=F0)) rfl rfl rfl ?_
  repeat' (first|refine a2q ⟨?_⟩|refine a0f (c9d (f4f hs)) ?_|refine ca (a6r asm) ?_|refine ca (b6r okQ) ?_|refine ca (a1b asm rfl) ?_|refine ca (a1t okQ asm) ?_|refine ca (a2a okQ) ?_|refine ca (a7t IH asm om okQ) ?_|refine ca (a1q okQ asm) ?_|refine ca (a1u okQ) ?_|refine ca (c1x okQ) ?_|refine ca (a2e okQ hl.len asm) ?_|refine ca (a2i okQ hl.len) ?_|refine ca (b0y okQ asm) ?_|refine ca (d9n IH asm om okQ) ?_|refine ca (g1g IH asm om okQ) ?_|refine a0a 3 (by decide) (by decide) ?_|fail)
  exact rfl
theorem h3n (hl:LOk l) (IH:∀ m,m<=n->Sp fx l m) (hs:okS l s=true) (h:go l (n+1) .init s=some (r,s1)):evF (pgL fx F0) a5h [.ptr 0 0] [PB l s,PR s]=some (.d (.int .i64 r.i),[PB l s1,PR s1]):=by
 change Go.Vm.Pa.step l (go l n) .init s=_ at h
 simp only[Go.Vm.Pa.step,Go.Vm.Pa.mk,Go.Vm.Pa.ret,Go.Vm.Pa.a8x,Go.Vm.Pa.deeper,Go.Vm.Pa.step.newS,Go.Vm.Pa.step.numS,Go.Vm.Pa.step.pickS]at h
 repeat' (first|(cases h;done)|split at h)
 all_goals(try(simp only[Option.some.injEq,Prod.mk.injEq]at h;obtain⟨rfl,rfl⟩:=h))
 all_goals
  refine a0e (b7k (F:=F0)) rfl rfl rfl ?_
  repeat' (first|refine a2q ⟨?_⟩|refine ca (a2e okQ hl.len asm) ?_|refine ca (a2i okQ hl.len) ?_|refine ca (a1q okQ asm) ?_|refine ca (a1u okQ) ?_|refine ca (a7t IH asm om okQ) ?_|refine ca (a1b asm rfl) ?_|refine a0a 3 (by decide) (by decide) ?_|fail)
  exact rfl
end
end Go.Vm.Ite
namespace Go.Vm.Ite
open Go.Vm.Lex (TokQ)
open Go.Vm.Pa
set_option maxHeartbeats 4000000
section
variable {fx:Nat->Option Obj} {l:List TokQ} {s s1 s2:PS} {n:Nat} {r:R}
theorem e4q {b:Bool} (hl:LOk l) (IH:∀ m,m<=n->Sp fx l m) (hs:okS l s=true) (h:go l (n+1) (.postfix_ b) s=some (r,s1)):evF (pgL fx F0) a3z [.ptr 0 0,.d (.bool b)] [PB l s,PR s]=some (.d (.int .i64 r.i),[PB l s1,PR s1]):=by
 change Go.Vm.Pa.step l (go l n) (.postfix_ b) s=_ at h
 simp only[Go.Vm.Pa.step,Go.Vm.Pa.mk,Go.Vm.Pa.ret,Go.Vm.Pa.a8x,Go.Vm.Pa.deeper,Go.Vm.Pa.step.newS,Go.Vm.Pa.step.numS,Go.Vm.Pa.step.pickS]at h
 split at h
 ·cases h
 rename_i a q1 e1
 split at h
 ·cases h
 rename_i a2 q2 e2
 simp only[Option.some.injEq,Prod.mk.injEq]at h;obtain⟨rfl,rfl⟩:=h
 refine a0e (b3f (F:=F0)) rfl rfl rfl ?_
 repeat' (first|refine a2q ⟨?_⟩|refine ca (a1t okQ asm) ?_|refine ca (a2a okQ) ?_|refine ca (a2e okQ hl.len asm) ?_|refine ca (a2i okQ hl.len) ?_|refine ca (a1b asm rfl) ?_|refine ca (c5s IH asm om okQ) ?_|refine a0a 3 (by decide) (by decide) ?_|fail)
 refine a0o (α:=Nat×Int×PS) (fun a=>a.1) (fun a=>[(0,.ptr 0 0),(5,i64 s.at_),(6,i64 a.2.1)]) (fun a=>[PB l a.2.2,PR a.2.2]) (fun a=>a.1<=n/\go l a.1 (.gets s.at_ a.2.1) a.2.2=some (a2,q2)/\okS l a.2.2=true) ?_ (n,_,_) ⟨Nat.le_refl _,(b3j e2).1,okQ⟩ rfl rfl
 rintro⟨m,i,q⟩ ⟨hm,h,hq⟩
 dsimp only at hm h hq
 cases m with
 |zero=>cases h
 |succ m=>
 change Go.Vm.Pa.step l (go l m) (.gets s.at_ i) q=_ at h
 simp only[Go.Vm.Pa.step,Go.Vm.Pa.mk,Go.Vm.Pa.ret,Go.Vm.Pa.a8x,Go.Vm.Pa.deeper,Go.Vm.Pa.step.newS,Go.Vm.Pa.step.numS,Go.Vm.Pa.step.pickS]at h
 split at h
 ·simp only[Option.some.injEq,Prod.mk.injEq]at h;obtain⟨rfl,rfl⟩:=h
  repeat' (first|refine a2q ⟨?_⟩|refine ca (a1t okQ asm) ?_|refine ca (a2a okQ) ?_|refine ca (a2e okQ hl.len asm) ?_|refine ca (a2i okQ hl.len) ?_|refine ca (a1b asm rfl) ?_|refine ca (c5s IH asm om okQ) ?_|refine a0a 3 (by decide) (by decide) ?_|fail)
  exact rfl
 ·split at h
  ·cases h
  ·repeat' (first|refine a2q ⟨?_⟩|refine ca (a1t okQ asm) ?_|refine ca (a2a okQ) ?_|refine ca (a2e okQ hl.len asm) ?_|refine ca (a2i okQ hl.len) ?_|refine ca (a1b asm rfl) ?_|refine ca (c5s IH asm om okQ) ?_|refine a0a 3 (by decide) (by decide) ?_|fail)
   exact⟨(m,_,_),⟨om,h,okQ⟩,by dsimp only;omega,rfl,rfl⟩
theorem i1l {k:Int} {b:Bool} (hl:LOk l) (IH:∀ m,m<=n->Sp fx l m) (hs:okS l s=true) (h:go l (n+1) (.row k b) s=some (r,s1)):evF (pgL fx F0) a6g [.ptr 0 0,.d (.int .i64 k),.d (.bool b)] [PB l s,PR s]=some (.d (.int .i64 r.i),[PB l s1,PR s1]):=by
 change Go.Vm.Pa.step l (go l n) (.row k b) s=_ at h
 simp only[Go.Vm.Pa.step,Go.Vm.Pa.mk,Go.Vm.Pa.ret,Go.Vm.Pa.a8x,Go.Vm.Pa.deeper,Go.Vm.Pa.step.newS,Go.Vm.Pa.step.numS,Go.Vm.Pa.step.pickS]at h
 split at h
 ·rename_i c5
  refine a0e (b0m (F:=F0)) rfl rfl rfl ?_
  repeat' (first|refine a2q ⟨?_⟩|refine ca (a6r asm) ?_|refine ca (c7p okQ) ?_|refine ca (d1i IH asm om okQ) ?_|refine ca (a1b asm rfl) ?_|refine ca (a9t IH asm om okQ) ?_|refine a0a 3 (by decide) (by decide) ?_|fail)
  exact rfl
 rename_i c5
 split at h
 ·cases h
 rename_i a q1 e1
 split at h
 ·cases h
 rename_i a2 q2 e2
 simp only[Option.some.injEq,Prod.mk.injEq]at h;obtain⟨rfl,rfl⟩:=h
 refine a0e (b0m (F:=F0)) rfl rfl rfl ?_
 repeat' (first|refine a2q ⟨?_⟩|refine ca (a6r asm) ?_|refine ca (c7p okQ) ?_|refine ca (d1i IH asm om okQ) ?_|refine ca (a1b asm rfl) ?_|refine ca (a9t IH asm om okQ) ?_|refine a0a 3 (by decide) (by decide) ?_|fail)
 refine a0o (α:=Nat×Int×PS) (fun a=>a.1) (fun a=>[(0,.ptr 0 0),(1,i64 k),(2,.d (.bool b)),(7,i64 s.at_),(8,i64 a.2.1)]) (fun a=>[PB l a.2.2,PR a.2.2]) (fun a=>a.1<=n/\go l a.1 (.rows k b s.at_ a.2.1) a.2.2=some (a2,q2)/\okS l a.2.2=true) ?_ (n,_,_) ⟨Nat.le_refl _,(b3j e2).1,okQ⟩ rfl rfl
 rintro⟨m,i,q⟩ ⟨hm,h,hq⟩
 dsimp only at hm h hq
 cases m with
 |zero=>cases h
 |succ m=>
 change Go.Vm.Pa.step l (go l m) (.rows k b s.at_ i) q=_ at h
 simp only[Go.Vm.Pa.step,Go.Vm.Pa.mk,Go.Vm.Pa.ret,Go.Vm.Pa.a8x,Go.Vm.Pa.deeper,Go.Vm.Pa.step.newS,Go.Vm.Pa.step.numS,Go.Vm.Pa.step.pickS]at h
 split at h
 ·simp only[Option.some.injEq,Prod.mk.injEq]at h;obtain⟨rfl,rfl⟩:=h
  repeat' (first|refine a2q ⟨?_⟩|refine ca (a6r asm) ?_|refine ca (c7p okQ) ?_|refine ca (d1i IH asm om okQ) ?_|refine ca (a1b asm rfl) ?_|refine ca (a9t IH asm om okQ) ?_|refine a0a 3 (by decide) (by decide) ?_|fail)
  exact rfl
 rename_i cb
 split at h
 ·simp only[Option.some.injEq,Prod.mk.injEq]at h;obtain⟨rfl,rfl⟩:=h
  repeat' (first|refine a2q ⟨?_⟩|refine ca (a6r asm) ?_|refine ca (c7p okQ) ?_|refine ca (d1i IH asm om okQ) ?_|refine ca (a1b asm rfl) ?_|refine ca (a9t IH asm om okQ) ?_|refine a0a 3 (by decide) (by decide) ?_|fail)
  exact rfl
 split at h
 ·cases h
 rename_i c9
 split at h
 ·cases h
 split at h
 ·cases h
 split at h
 ·simp only[Option.some.injEq,Prod.mk.injEq]at h;obtain⟨rfl,rfl⟩:=h
  repeat' (first|refine a2q ⟨?_⟩|refine ca (a6r asm) ?_|refine ca (c7p okQ) ?_|refine ca (d1i (s:=adv _) IH asm om okQ) ?_|refine ca (a1b asm rfl) ?_|refine ca (a9t IH asm om okQ) ?_|refine ca (d1i IH asm om okQ) ?_|refine a0a 3 (by decide) (by decide) ?_|fail)
  exact rfl
 ·repeat' (first|refine a2q ⟨?_⟩|refine ca (a6r asm) ?_|refine ca (c7p okQ) ?_|refine ca (d1i (s:=adv _) IH asm om okQ) ?_|refine ca (a1b asm rfl) ?_|refine ca (a9t IH asm om okQ) ?_|refine ca (d1i IH asm om okQ) ?_|refine a0a 3 (by decide) (by decide) ?_|fail)
  exact⟨(m,_,_),⟨om,h,okQ⟩,by dsimp only;omega,rfl,rfl⟩
end
end Go.Vm.Ite
namespace Go.Vm.Ite
open Go.Vm.Lex (TokQ)
open Go.Vm.Pa
set_option maxHeartbeats 4000000
section
variable {fx:Nat->Option Obj} {l:List TokQ} {s s1 s2:PS} {n:Nat} {r:R}
theorem g5q (hl:LOk l) (IH:∀ m,m<=n->Sp fx l m) (hs:okS l s=true) (h:go l (n+1) .block s=some (r,s1)):evF (pgL fx F0) a4u [.ptr 0 0] [PB l s,PR s]=some (.d (.int .i64 r.i),[PB l s1,PR s1]):=by
 change Go.Vm.Pa.step l (go l n) .block s=_ at h
 simp only[Go.Vm.Pa.step,Go.Vm.Pa.mk,Go.Vm.Pa.ret,Go.Vm.Pa.a8x,Go.Vm.Pa.deeper,Go.Vm.Pa.step.newS,Go.Vm.Pa.step.numS,Go.Vm.Pa.step.pickS]at h
 split at h
 ·repeat' (first|(cases h;done)|split at h)
  simp only[Option.some.injEq,Prod.mk.injEq]at h;obtain⟨rfl,rfl⟩:=h
  refine a0e (a8f (F:=F0)) rfl rfl rfl ?_
  repeat' (first|refine a2q ⟨?_⟩|refine ca (a6r asm) ?_|refine ca (b0y okQ asm) ?_|refine ca (e0g IH asm om okQ) ?_|refine ca (b8p okQ asm) ?_|refine ca (a1q okQ asm) ?_|refine ca (a1u okQ) ?_|refine ca (a1b asm rfl) ?_|refine a0a 3 (by decide) (by decide) ?_|fail)
  exact rfl
 split at h
 ·cases h
 rename_i p q1 e1
 split at h
 ·cases h
 rename_i ck
 repeat' (first|(cases h;done)|split at h)
 simp only[Option.some.injEq,Prod.mk.injEq]at h;obtain⟨rfl,rfl⟩:=h
 refine a0e (a8f (F:=F0)) rfl rfl rfl ?_
 repeat' (first|refine a2q ⟨?_⟩|refine ca (a6r asm) ?_|refine ca (b0y okQ asm) ?_|refine ca (e0g IH asm om okQ) ?_|refine ca (b8p okQ asm) ?_|refine ca (a1q okQ asm) ?_|refine ca (a1u okQ) ?_|refine ca (a1b asm rfl) ?_|refine a0a 3 (by decide) (by decide) ?_|fail)
 refine a0o (α:=Nat×K×PS) (fun a=>a.1) (fun a=>[(0,.ptr 0 0),(3,i64 s.at_),(4,.ptr 2 0)]) (fun a=>[PB l a.2.2,PR a.2.2,.box [i64 20,str [],i64 0,.row 3 a.2.1.n,i64 0,i64 0],.row 1 a.2.1.l]) (fun a=>a.1<=n/\go l a.1 (.stmts a.2.1) a.2.2=some (p,q1)/\okS l a.2.2=true) ?_ (n,K.o,_) ⟨Nat.le_refl _,(b3j e1).1,okQ⟩ rfl rfl
 rintro⟨m,ks,q⟩ ⟨hm,h,hq⟩
 dsimp only at hm h hq
 cases m with
 |zero=>cases h
 |succ m=>
 change Go.Vm.Pa.step l (go l m) (.stmts ks) q=_ at h
 simp only[Go.Vm.Pa.step,Go.Vm.Pa.mk,Go.Vm.Pa.ret,Go.Vm.Pa.a8x,Go.Vm.Pa.deeper,Go.Vm.Pa.step.newS,Go.Vm.Pa.step.numS,Go.Vm.Pa.step.pickS]at h
 repeat' (first|(cases h;done)|split at h)
 all_goals first
   |(simp only[Option.some.injEq,Prod.mk.injEq]at h;obtain⟨rfl,rfl⟩:=h
     try have ck2:= ‹okK ks=true›
     repeat' (first|refine a2q ⟨?_⟩|refine And.intro ⟨rfl,a1c ck2,a1i ck2⟩ ?_|refine And.intro (a1c ck) ?_|refine And.intro ⟨rfl,by decide⟩ ?_|refine ca (a6r asm) ?_|refine ca (b0y okQ asm) ?_|refine ca (e0g IH asm om okQ) ?_|refine ca (b8p okQ asm) ?_|refine ca (a1q okQ asm) ?_|refine ca (a1u okQ) ?_|refine ca (a1b asm rfl) ?_|refine a0a 3 (by decide) (by decide) ?_|fail)
     exact rfl)
   |(have ck2:= ‹okK ks=true›
     repeat' (first|refine a2q ⟨?_⟩|refine And.intro ⟨rfl,a1c ck2,a1i ck2⟩ ?_|refine And.intro ⟨rfl,by decide⟩ ?_|refine ca (a6r asm) ?_|refine ca (b0y okQ asm) ?_|refine ca (e0g IH asm om okQ) ?_|refine ca (b8p okQ asm) ?_|refine ca (a1q okQ asm) ?_|refine ca (a1u okQ) ?_|refine ca (a1b asm rfl) ?_|refine a0a 3 (by decide) (by decide) ?_|fail)
     exact⟨(m,_,_),⟨om,h,okQ⟩,by dsimp only;omega,rfl,rfl⟩)
theorem f2z (hl:LOk l) (IH:∀ m,m<=n->Sp fx l m) (hs:okS l s=true) (h:go l (n+1) .match_ s=some (r,s1)):evF (pgL fx F0) a5a [.ptr 0 0] [PB l s,PR s]=some (.d (.int .i64 r.i),[PB l s1,PR s1]):=by
 change Go.Vm.Pa.step l (go l n) .match_ s=_ at h
 simp only[Go.Vm.Pa.step,Go.Vm.Pa.mk,Go.Vm.Pa.ret,Go.Vm.Pa.a8x,Go.Vm.Pa.deeper,Go.Vm.Pa.step.newS,Go.Vm.Pa.step.numS,Go.Vm.Pa.step.pickS]at h
 split at h
 ·cases h
 rename_i x q0 e0
 split at h
 ·cases h
 rename_i p q1 e1
 split at h
 ·cases h
 rename_i ck
 repeat' (first|(cases h;done)|split at h)
 simp only[Option.some.injEq,Prod.mk.injEq]at h;obtain⟨rfl,rfl⟩:=h
 refine a0e (b5k (F:=F0)) rfl rfl rfl ?_
 repeat' (first|refine a2q ⟨?_⟩|refine And.intro ⟨rfl,by decide⟩ ?_|refine Exists.intro _ (Exists.intro _ (And.intro rfl (And.intro rfl ?_)))|refine ca (a6r asm) ?_|refine ca (b0y okQ asm) ?_|refine ca (g0s IH asm om okQ) ?_|refine ca (a1q okQ asm) ?_|refine ca (a1u okQ) ?_|refine ca (a7t IH asm om okQ) ?_|refine ca (a1b asm rfl) ?_|refine a0a 3 (by decide) (by decide) ?_|fail)
 refine a0o (α:=Nat×K×PS) (fun a=>a.1) (fun a=>[(0,.ptr 0 0),(3,i64 s.at_),(4,.ptr 2 0)]) (fun a=>[PB l a.2.2,PR a.2.2,.box [i64 46,str [],i64 0,.row 3 a.2.1.n,i64 0,i64 0],.row 1 a.2.1.l]) (fun a=>a.1<=n/\go l a.1 (.arms a.2.1) a.2.2=some (p,q1)/\okS l a.2.2=true) ?_ (n,⟨Go.Vm.Pa.one x.i,1⟩,_) ⟨Nat.le_refl _,(b3j e1).1,okQ⟩ rfl rfl
 rintro⟨m,ks,q⟩ ⟨hm,h,hq⟩
 dsimp only at hm h hq
 cases m with
 |zero=>cases h
 |succ m=>
 change Go.Vm.Pa.step l (go l m) (.arms ks) q=_ at h
 simp only[Go.Vm.Pa.step,Go.Vm.Pa.mk,Go.Vm.Pa.ret,Go.Vm.Pa.a8x,Go.Vm.Pa.deeper,Go.Vm.Pa.step.newS,Go.Vm.Pa.step.numS,Go.Vm.Pa.step.pickS]at h
 repeat' (first|(cases h;done)|split at h)
 all_goals first
   |(simp only[Option.some.injEq,Prod.mk.injEq]at h;obtain⟨rfl,rfl⟩:=h
     try have ck2:= ‹okK ks=true›
     repeat' (first|refine a2q ⟨?_⟩|refine And.intro ⟨rfl,a1c ck2,a1i ck2⟩ ?_|refine And.intro (a1c ck) ?_|refine And.intro ⟨rfl,by decide⟩ ?_|refine ca (a6r asm) ?_|refine ca (b0y okQ asm) ?_|refine ca (g0s IH asm om okQ) ?_|refine ca (a1q okQ asm) ?_|refine ca (a1u okQ) ?_|refine ca (a7t IH asm om okQ) ?_|refine ca (a1b asm rfl) ?_|refine a0a 3 (by decide) (by decide) ?_|fail)
     exact rfl)
   |(have ck2:= ‹okK ks=true›
     repeat' (first|refine a2q ⟨?_⟩|refine And.intro ⟨rfl,a1c ck2,a1i ck2⟩ ?_|refine And.intro ⟨rfl,by decide⟩ ?_|refine ca (a6r asm) ?_|refine ca (b0y okQ asm) ?_|refine ca (g0s IH asm om okQ) ?_|refine ca (a1q okQ asm) ?_|refine ca (a1u okQ) ?_|refine ca (a7t IH asm om okQ) ?_|refine ca (a1b asm rfl) ?_|refine a0a 3 (by decide) (by decide) ?_|fail)
     exact⟨(m,_,_),⟨om,h,okQ⟩,by dsimp only;omega,rfl,rfl⟩)
theorem g2b {k:Int} (hl:LOk l) (IH:∀ m,m<=n->Sp fx l m) (hs:okS l s=true) (h:go l (n+1) (.parts k) s=some (r,s1)):evF (pgL fx F0) a4t [.ptr 0 0,.d (.int .i64 k)] [PB l s,PR s]=some (.d (.int .i64 r.i),[PB l s1,PR s1]):=by
 change Go.Vm.Pa.step l (go l n) (.parts k) s=_ at h
 simp only[Go.Vm.Pa.step,Go.Vm.Pa.mk,Go.Vm.Pa.ret,Go.Vm.Pa.a8x,Go.Vm.Pa.deeper,Go.Vm.Pa.step.newS,Go.Vm.Pa.step.numS,Go.Vm.Pa.step.pickS]at h
 split at h
 ·cases h
 rename_i c9
 split at h
 ·cases h
 rename_i p q1 e1
 split at h
 ·cases h
 rename_i ck
 repeat' (first|(cases h;done)|split at h)
 simp only[Option.some.injEq,Prod.mk.injEq]at h;obtain⟨rfl,rfl⟩:=h
 refine a0e (b5r (F:=F0)) rfl rfl rfl ?_
 repeat' (first|refine a2q ⟨?_⟩|refine ca (a1t okQ asm) ?_|refine ca (a2e (s:=adv _) okQ hl.len asm) ?_|refine ca (a2i (s:=adv _) okQ hl.len) ?_|refine ca (a6r asm) ?_|refine ca (b0y okQ asm) ?_|refine ca (d8a IH asm om okQ) ?_|refine ca (c3s IH asm om okQ) ?_|refine ca (a1t okQ asm) ?_|refine ca (a2a okQ) ?_|refine ca (a2e okQ hl.len asm) ?_|refine ca (a2i okQ hl.len) ?_|refine ca (a1q okQ asm) ?_|refine ca (a1u okQ) ?_|refine ca (a1b asm rfl) ?_|refine a0a 3 (by decide) (by decide) ?_|fail)
 refine a0o (α:=Nat×K×PS) (fun a=>a.1) (fun a=>[(0,.ptr 0 0),(1,i64 k),(5,i64 s.at_),(6,.ptr 2 0)]) (fun a=>[PB l a.2.2,PR a.2.2,.box [i64 k,str (a2c l (adv s)).1,i64 0,.row 3 a.2.1.n,i64 0,i64 0],.row 1 a.2.1.l]) (fun a=>a.1<=n/\go l a.1 (.fields k a.2.1) a.2.2=some (p,q1)/\okS l a.2.2=true) ?_ (n,K.o,_) ⟨Nat.le_refl _,(b3j e1).1,okQ⟩ rfl rfl
 rintro⟨m,ks,q⟩ ⟨hm,h,hq⟩
 dsimp only at hm h hq
 cases m with
 |zero=>cases h
 |succ m=>
 change Go.Vm.Pa.step l (go l m) (.fields k ks) q=_ at h
 simp only[Go.Vm.Pa.step,Go.Vm.Pa.mk,Go.Vm.Pa.ret,Go.Vm.Pa.a8x,Go.Vm.Pa.deeper,Go.Vm.Pa.step.newS,Go.Vm.Pa.step.numS,Go.Vm.Pa.step.pickS]at h
 repeat' (first|(cases h;done)|split at h)
 all_goals first
   |(simp only[Option.some.injEq,Prod.mk.injEq]at h;obtain⟨rfl,rfl⟩:=h
     try have ck2:= ‹okK ks=true›
     repeat' (first|refine a2q ⟨?_⟩|refine And.intro ⟨rfl,a1c ck2,a1i ck2⟩ ?_|refine And.intro (a1c ck) ?_|refine And.intro ⟨rfl,by decide⟩ ?_|refine ca (a6r asm) ?_|refine ca (b0y okQ asm) ?_|refine ca (d8a IH asm om okQ) ?_|refine ca (c3s IH asm om okQ) ?_|refine ca (a1t okQ asm) ?_|refine ca (a2a okQ) ?_|refine ca (a2e okQ hl.len asm) ?_|refine ca (a2i okQ hl.len) ?_|refine ca (a1q okQ asm) ?_|refine ca (a1u okQ) ?_|refine ca (a1b asm rfl) ?_|refine a0a 3 (by decide) (by decide) ?_|fail)
     exact rfl)
   |(have ck2:= ‹okK ks=true›
     repeat' (first|refine a2q ⟨?_⟩|refine And.intro ⟨rfl,a1c ck2,a1i ck2⟩ ?_|refine And.intro ⟨rfl,by decide⟩ ?_|refine ca (a6r asm) ?_|refine ca (b0y okQ asm) ?_|refine ca (d8a IH asm om okQ) ?_|refine ca (c3s IH asm om okQ) ?_|refine ca (a1t okQ asm) ?_|refine ca (a2a okQ) ?_|refine ca (a2e okQ hl.len asm) ?_|refine ca (a2i okQ hl.len) ?_|refine ca (a1q okQ asm) ?_|refine ca (a1u okQ) ?_|refine ca (a1b asm rfl) ?_|refine a0a 3 (by decide) (by decide) ?_|fail)
     exact⟨(m,_,_),⟨om,h,okQ⟩,by dsimp only;omega,rfl,rfl⟩)
end
end Go.Vm.Ite
namespace Go.Vm.Ite
open Go.Vm.Lex (TokQ)
open Go.Vm.Pa
set_option maxHeartbeats 4000000
section
variable {fx:Nat->Option Obj} {l:List TokQ} {s s1 s2:PS} {n:Nat} {r:R}
theorem e4z (hl:LOk l) (IH:∀ m,m<=n->Sp fx l m) (hs:okS l s=true) (h:go l (n+1) .function s=some (r,s1)):evF (pgL fx F0) a3m [.ptr 0 0] [PB l s,PR s]=some (.d (.int .i64 r.i),[PB l s1,PR s1]):=by
 change Go.Vm.Pa.step l (go l n) .function s=_ at h
 simp only[Go.Vm.Pa.step,Go.Vm.Pa.mk,Go.Vm.Pa.ret,Go.Vm.Pa.a8x,Go.Vm.Pa.deeper,Go.Vm.Pa.step.newS,Go.Vm.Pa.step.numS,Go.Vm.Pa.step.pickS]at h
 split at h
 ·cases h
 rename_i p q1 e1
 split at h
 ·rename_i s6 e6
  split at h
  ·cases h
  rename_i r1 q2 e2
  split at h
  ·cases h
  rename_i k1
  split at h
  ·cases h
  rename_i b1 q3 e3
  split at h
  ·cases h
  rename_i k2
  split at h
  ·cases h
  rename_i k3
  repeat' (first|(cases h;done)|split at h)
  simp only[Option.some.injEq,Prod.mk.injEq]at h;obtain⟨rfl,rfl⟩:=h
  refine a0e (a3n (F:=F0)) rfl rfl rfl ?_
  repeat' (first|refine a2q ⟨?_⟩|refine ca (a6r asm) ?_|refine ca (b0y okQ asm) ?_|refine ca (b2o IH asm om okQ) ?_|refine ca (a1t okQ asm) ?_|refine ca (a2a okQ) ?_|refine ca (a1q okQ asm) ?_|refine ca (a1u okQ) ?_|refine ca (a2e okQ hl.len asm) ?_|refine ca (a2i okQ hl.len) ?_|refine ca (b8q IH asm om okQ) ?_|refine ca (a5j IH asm om okQ) ?_|refine ca (a1b asm rfl) ?_|refine a0a 3 (by decide) (by decide) ?_|fail)
  refine a0o (α:=Nat×(K×Int)×PS) (fun a=>a.1) (fun a=>[(0,.ptr 0 0),(3,i64 s.at_),(4,.ptr 2 0)]) (fun a=>[PB l a.2.2,PR a.2.2,.box [i64 2,str (a2c l (a1n l [102,110] s).2).1,i64 a.2.1.2,.row 3 a.2.1.1.n,i64 0,i64 0],.row 1 a.2.1.1.l]) (fun a=>a.1<=n/\go l a.1 (.params a.2.1.1 a.2.1.2) a.2.2=some (p,q1)/\okS l a.2.2=true) ?_ (n,(K.o,0),_) ⟨Nat.le_refl _,(b3j e1).1,okQ⟩ rfl rfl
  rintro⟨m,⟨ks,v⟩,q⟩ ⟨hm,h,hq⟩
  dsimp only at hm h hq
  cases m with
  |zero=>cases h
  |succ m=>
  change Go.Vm.Pa.step l (go l m) (.params ks v) q=_ at h
  simp only[Go.Vm.Pa.step,Go.Vm.Pa.mk,Go.Vm.Pa.ret,Go.Vm.Pa.a8x,Go.Vm.Pa.deeper,Go.Vm.Pa.step.newS,Go.Vm.Pa.step.numS,Go.Vm.Pa.step.pickS]at h
  repeat' (first|(cases h;done)|split at h)
  all_goals first
    |(simp only[Option.some.injEq,Prod.mk.injEq]at h;obtain⟨rfl,rfl⟩:=h
      try have ck2:= ‹okK ks=true›
      repeat' (first|refine a2q ⟨?_⟩|refine And.intro ⟨rfl,a1c ck2,a1i ck2⟩ ?_|refine And.intro (a1c k3) ?_|refine And.intro ⟨rfl,by decide⟩ ?_|refine And.intro ⟨rfl,a1c k1,a1i k1⟩ ?_|refine And.intro ⟨rfl,a1c k2,a1i k2⟩ ?_|refine ca (a6r asm) ?_|refine ca (b0y okQ asm) ?_|refine ca (b2o IH asm om okQ) ?_|refine ca (a1t okQ asm) ?_|refine ca (a2a okQ) ?_|refine ca (a1q okQ asm) ?_|refine ca (a1u okQ) ?_|refine ca (a2e okQ hl.len asm) ?_|refine ca (a2i okQ hl.len) ?_|refine ca (b8q IH asm om okQ) ?_|refine ca (a5j IH asm om okQ) ?_|refine ca (a1b asm rfl) ?_|refine a0a 3 (by decide) (by decide) ?_|fail)
      exact rfl)
    |(have ck2:= ‹okK ks=true›
      repeat' (first|refine a2q ⟨?_⟩|refine And.intro ⟨rfl,a1c ck2,a1i ck2⟩ ?_|refine And.intro ⟨rfl,by decide⟩ ?_|refine And.intro ⟨rfl,a1c k1,a1i k1⟩ ?_|refine And.intro ⟨rfl,a1c k2,a1i k2⟩ ?_|refine ca (a6r asm) ?_|refine ca (b0y okQ asm) ?_|refine ca (b2o IH asm om okQ) ?_|refine ca (a1t okQ asm) ?_|refine ca (a2a okQ) ?_|refine ca (a1q okQ asm) ?_|refine ca (a1u okQ) ?_|refine ca (a2e okQ hl.len asm) ?_|refine ca (a2i okQ hl.len) ?_|refine ca (b8q IH asm om okQ) ?_|refine ca (a5j IH asm om okQ) ?_|refine ca (a1b asm rfl) ?_|refine a0a 3 (by decide) (by decide) ?_|fail)
      exact⟨(m,(_,_),_),⟨om,h,okQ⟩,by dsimp only;omega,rfl,rfl⟩)
 rename_i s6 e6
 split at h
 ·rename_i cb
  split at h
  ·rename_i hg
   obtain⟨hn,hn2,hf⟩:=hg
   have gf:=c9d (g0k hf)
   have hroom:roomy (s6.n+1) 72:=by unfold roomy;omega
   split at h
   ·cases h
   rename_i k1
   split at h
   ·cases h
   rename_i b1 q3 e3
   split at h
   ·cases h
   rename_i k2
   split at h
   ·cases h
   rename_i k3
   have h6:okS l s6=true:=okQ
   repeat' (first|(cases h;done)|split at h)
   simp only[Option.some.injEq,Prod.mk.injEq]at h;obtain⟨rfl,rfl⟩:=h
   refine a0e (a3n (F:=F0)) rfl rfl rfl ?_
   repeat' (first|refine a2q ⟨?_⟩|refine ca (a6r asm) ?_|refine ca (b0y okQ asm) ?_|refine ca (b2o IH asm om okQ) ?_|refine ca (a1t okQ asm) ?_|refine ca (a2a okQ) ?_|refine ca (a1q okQ asm) ?_|refine ca (a1u okQ) ?_|refine ca (a2e okQ hl.len asm) ?_|refine ca (a2i okQ hl.len) ?_|refine ca (b8q IH asm om okQ) ?_|refine ca (a5j IH asm om okQ) ?_|refine ca (a1b asm rfl) ?_|refine a0a 3 (by decide) (by decide) ?_|fail)
   refine a0o (α:=Nat×(K×Int)×PS) (fun a=>a.1) (fun a=>[(0,.ptr 0 0),(3,i64 s.at_),(4,.ptr 2 0)]) (fun a=>[PB l a.2.2,PR a.2.2,.box [i64 2,str (a2c l (a1n l [102,110] s).2).1,i64 a.2.1.2,.row 3 a.2.1.1.n,i64 0,i64 0],.row 1 a.2.1.1.l]) (fun a=>a.1<=n/\go l a.1 (.params a.2.1.1 a.2.1.2) a.2.2=some (p,q1)/\okS l a.2.2=true) ?_ (n,(K.o,0),_) ⟨Nat.le_refl _,(b3j e1).1,okQ⟩ rfl rfl
   rintro⟨m,⟨ks,v⟩,q⟩ ⟨hm,h,hq⟩
   dsimp only at hm h hq
   cases m with
   |zero=>cases h
   |succ m=>
   change Go.Vm.Pa.step l (go l m) (.params ks v) q=_ at h
   simp only[Go.Vm.Pa.step,Go.Vm.Pa.mk,Go.Vm.Pa.ret,Go.Vm.Pa.a8x,Go.Vm.Pa.deeper,Go.Vm.Pa.step.newS,Go.Vm.Pa.step.numS,Go.Vm.Pa.step.pickS]at h
   repeat' (first|(cases h;done)|split at h)
   all_goals first
     |(simp only[Option.some.injEq,Prod.mk.injEq]at h;obtain⟨rfl,rfl⟩:=h
       try have ck2:= ‹okK ks=true›
       repeat' (first|refine a2q ⟨?_⟩|refine And.intro ⟨rfl,a1c ck2,a1i ck2⟩ ?_|refine And.intro (a1c k3) ?_|refine And.intro ⟨rfl,by decide⟩ ?_|refine And.intro ⟨rfl,a1c k1,a1i k1⟩ ?_|refine And.intro ⟨rfl,a1c k2,a1i k2⟩ ?_|refine a0f gf ?_|refine And.intro ⟨rfl,hn,hroom⟩ ?_|refine Exists.intro (N.D ⟨12,.nil,0,.nil⟩ _ _) (And.intro rfl ?_)|refine ca (a5j IH e3 om h6) ?_|refine ca (a6r asm) ?_|refine ca (b0y okQ asm) ?_|refine ca (b2o IH asm om okQ) ?_|refine ca (a1t okQ asm) ?_|refine ca (a2a okQ) ?_|refine ca (a1q okQ asm) ?_|refine ca (a1u okQ) ?_|refine ca (a2e okQ hl.len asm) ?_|refine ca (a2i okQ hl.len) ?_|refine ca (b8q IH asm om okQ) ?_|refine ca (a5j IH asm om okQ) ?_|refine ca (a1b asm rfl) ?_|refine a0a 3 (by decide) (by decide) ?_|fail)
       exact rfl)
     |(have ck2:= ‹okK ks=true›
       repeat' (first|refine a2q ⟨?_⟩|refine And.intro ⟨rfl,a1c ck2,a1i ck2⟩ ?_|refine And.intro ⟨rfl,by decide⟩ ?_|refine And.intro ⟨rfl,a1c k1,a1i k1⟩ ?_|refine And.intro ⟨rfl,a1c k2,a1i k2⟩ ?_|refine a0f gf ?_|refine And.intro ⟨rfl,hn,hroom⟩ ?_|refine Exists.intro (N.D ⟨12,.nil,0,.nil⟩ _ _) (And.intro rfl ?_)|refine ca (a5j IH e3 om h6) ?_|refine ca (a6r asm) ?_|refine ca (b0y okQ asm) ?_|refine ca (b2o IH asm om okQ) ?_|refine ca (a1t okQ asm) ?_|refine ca (a2a okQ) ?_|refine ca (a1q okQ asm) ?_|refine ca (a1u okQ) ?_|refine ca (a2e okQ hl.len asm) ?_|refine ca (a2i okQ hl.len) ?_|refine ca (b8q IH asm om okQ) ?_|refine ca (a5j IH asm om okQ) ?_|refine ca (a1b asm rfl) ?_|refine a0a 3 (by decide) (by decide) ?_|fail)
       exact⟨(m,(_,_),_),⟨om,h,okQ⟩,by dsimp only;omega,rfl,rfl⟩)
  ·cases h
 ·split at h
  ·cases h
  rename_i b1 q3 e3
  split at h
  ·cases h
  rename_i k1
  split at h
  ·cases h
  rename_i k2
  repeat' (first|(cases h;done)|split at h)
  simp only[Option.some.injEq,Prod.mk.injEq]at h;obtain⟨rfl,rfl⟩:=h
  refine a0e (a3n (F:=F0)) rfl rfl rfl ?_
  repeat' (first|refine a2q ⟨?_⟩|refine ca (a6r asm) ?_|refine ca (b0y okQ asm) ?_|refine ca (b2o IH asm om okQ) ?_|refine ca (a1t okQ asm) ?_|refine ca (a2a okQ) ?_|refine ca (a1q okQ asm) ?_|refine ca (a1u okQ) ?_|refine ca (a2e okQ hl.len asm) ?_|refine ca (a2i okQ hl.len) ?_|refine ca (b8q IH asm om okQ) ?_|refine ca (a5j IH asm om okQ) ?_|refine ca (a1b asm rfl) ?_|refine a0a 3 (by decide) (by decide) ?_|fail)
  refine a0o (α:=Nat×(K×Int)×PS) (fun a=>a.1) (fun a=>[(0,.ptr 0 0),(3,i64 s.at_),(4,.ptr 2 0)]) (fun a=>[PB l a.2.2,PR a.2.2,.box [i64 2,str (a2c l (a1n l [102,110] s).2).1,i64 a.2.1.2,.row 3 a.2.1.1.n,i64 0,i64 0],.row 1 a.2.1.1.l]) (fun a=>a.1<=n/\go l a.1 (.params a.2.1.1 a.2.1.2) a.2.2=some (p,q1)/\okS l a.2.2=true) ?_ (n,(K.o,0),_) ⟨Nat.le_refl _,(b3j e1).1,okQ⟩ rfl rfl
  rintro⟨m,⟨ks,v⟩,q⟩ ⟨hm,h,hq⟩
  dsimp only at hm h hq
  cases m with
  |zero=>cases h
  |succ m=>
  change Go.Vm.Pa.step l (go l m) (.params ks v) q=_ at h
  simp only[Go.Vm.Pa.step,Go.Vm.Pa.mk,Go.Vm.Pa.ret,Go.Vm.Pa.a8x,Go.Vm.Pa.deeper,Go.Vm.Pa.step.newS,Go.Vm.Pa.step.numS,Go.Vm.Pa.step.pickS]at h
  repeat' (first|(cases h;done)|split at h)
  all_goals first
    |(simp only[Option.some.injEq,Prod.mk.injEq]at h;obtain⟨rfl,rfl⟩:=h
      try have ck2:= ‹okK ks=true›
      repeat' (first|refine a2q ⟨?_⟩|refine And.intro ⟨rfl,a1c ck2,a1i ck2⟩ ?_|refine And.intro (a1c k2) ?_|refine And.intro ⟨rfl,by decide⟩ ?_|refine And.intro ⟨rfl,a1c k1,a1i k1⟩ ?_|refine ca (a6r asm) ?_|refine ca (b0y okQ asm) ?_|refine ca (b2o IH asm om okQ) ?_|refine ca (a1t okQ asm) ?_|refine ca (a2a okQ) ?_|refine ca (a1q okQ asm) ?_|refine ca (a1u okQ) ?_|refine ca (a2e okQ hl.len asm) ?_|refine ca (a2i okQ hl.len) ?_|refine ca (b8q IH asm om okQ) ?_|refine ca (a5j IH asm om okQ) ?_|refine ca (a1b asm rfl) ?_|refine a0a 3 (by decide) (by decide) ?_|fail)
      exact rfl)
    |(have ck2:= ‹okK ks=true›
      repeat' (first|refine a2q ⟨?_⟩|refine And.intro ⟨rfl,a1c ck2,a1i ck2⟩ ?_|refine And.intro ⟨rfl,by decide⟩ ?_|refine And.intro ⟨rfl,a1c k1,a1i k1⟩ ?_|refine ca (a6r asm) ?_|refine ca (b0y okQ asm) ?_|refine ca (b2o IH asm om okQ) ?_|refine ca (a1t okQ asm) ?_|refine ca (a2a okQ) ?_|refine ca (a1q okQ asm) ?_|refine ca (a1u okQ) ?_|refine ca (a2e okQ hl.len asm) ?_|refine ca (a2i okQ hl.len) ?_|refine ca (b8q IH asm om okQ) ?_|refine ca (a5j IH asm om okQ) ?_|refine ca (a1b asm rfl) ?_|refine a0a 3 (by decide) (by decide) ?_|fail)
      exact⟨(m,(_,_),_),⟨om,h,okQ⟩,by dsimp only;omega,rfl,rfl⟩)
end
end Go.Vm.Ite
