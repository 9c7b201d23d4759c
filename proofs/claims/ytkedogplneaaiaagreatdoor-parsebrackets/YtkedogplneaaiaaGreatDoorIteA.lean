import Derived.Test.YtkedogplneaaiaaGreatDoorTreP
import Derived.Test.YtkedogplneaaiaaGreatDoorPlW7
set_option linter.unusedVariables false
set_option linter.unusedSimpArgs false
namespace Go.Vm.Pa
open Go.Vm.Lex (TokQ)
abbrev S:=List UInt8
instance:Inhabited TokQ:=⟨⟨0,[],0,0,0⟩⟩
abbrev w (n:Int):Int:=IntKind.i64.wrap n
def b2u (x:TokQ):D:= .agg [.int .i64 x.k,.str x.t,.int .i64 x.v,.int .i64 (x.f:Int),.int .i64 (x.e:Int)]
structure N where
 k:Int
 t:S
 v:Int
 ks:List D
def N.D (n:N) (f e:Int):D:= .agg [.int .i64 n.k,.str n.t,.int .i64 n.v,.sl n.ks,.int .i64 f,.int .i64 e]
structure PS where
 at_:Int
 deep:Int
 ns:List D
 n:Nat
 bc:Int
 bf:Int
 be:Int
structure K where
 l:List D
 n:Nat
def K.o:K:=⟨[],0⟩
def okK (k:K):Bool:=decide (k.l.length=k.n) && decide (k.n < 1000000)
def push (k:K) (i:Int):K:=⟨k.l++[.int .i64 i],k.n+1⟩
structure R where
 i:Int
 b:Bool
 ks:K
 v:Int
abbrev rI (i:Int):R:=⟨i,false,K.o,0⟩
abbrev rK (ks:K):R:=⟨0,false,ks,0⟩
section
variable (l:List TokQ)
def now (s:PS):TokQ:=l.getD s.at_.toNat default
def okS (s:PS):Bool:=decide (0<=s.at_) && decide (s.at_ < l.length)
def okF (fr:Int):Bool:=decide (0<=fr) && decide (fr < l.length)
def isS (s:PS) (x:S):Bool:=(decide ((now l s).k=2)||decide ((now l s).k=4)) && decide ((now l s).t=x)
def okB (s:PS):Bool:=decide (s.bc=0)
def a4w (c:Int) (s:PS):PS:=if okB s then{s with bc:=c,bf:=(now l s).f,be:=(now l s).e } else s
def adv (s:PS):PS:={s with at_:=w (s.at_+1)}
def down (s:PS):PS:={s with deep:=w (s.deep - 1)}
def a1z (x:S) (s:PS):Bool×PS:=if okB s && isS l s x then(true,adv s) else(false,s)
def a3o (x:S) (s:PS):Bool×PS:=if okB s && isS l s x then(true,adv s) else(false,a4w l 120 s)
def a9v (s:PS):S×PS:=if okB s && decide ((now l s).k=1) then((now l s).t,adv s) else([],a4w l 120 s)
def anyS (s:PS) (xs:List S):Bool:=xs.any (isS l s)
def f9a:List S:=[[105,54,52],[98,111,111,108],[40],[38],[66,111,120]]
def e3j:List S:=[[116,114,117,101],[102,97,108,115,101],[40],[66,111,120],[105,102],[109,97,116,99,104],[123],[45],[33],[42],[38]]
def h6x:List S:=[[95],[116,114,117,101],[102,97,108,115,101],[45]]
def a1e (c:Int) (s:PS):Bool:=
 if c=116 then decide ((now l s).k=1)||anyS l s f9a
 else if c=101 then decide ((now l s).k=1)||decide ((now l s).k=3)||anyS l s e3j
 else if c=112 then decide ((now l s).k=1)||decide ((now l s).k=3)||anyS l s h6x
 else isS l s [123]
def b0j (c:Int) (s:PS):PS:=if okB s && !a1e l c s then a4w l 120 s else s
def b4d (s:PS):PS:=if okB s && decide (100<=s.deep) then a4w l 121 s else s
def a3h (s:PS):PS:={s with deep:=w (s.deep+1)}
def c2w (c:Int) (s:PS):Bool×PS:=(okB (a3h (b4d l (b0j l c s))),a3h (b4d l (b0j l c s)))
def a2p (fr:Int) (n:N) (s:PS):Option (Int×PS):=
 if s.ns.length=s.n/\s.n < 1000000/\okF l fr/\(fr < s.at_->okF l (w (s.at_ - 1))) then
  some (w (((s.n+1:Nat):Int) - 1),{s with n:=s.n+1,ns:=s.ns++[n.D (l.getD fr.toNat default).f (if fr < s.at_ then((l.getD (w (s.at_ - 1)).toNat default).e:Int) else 0)]})
 else none
def b9w (r:Int):List S:=if r=0 then[[124,124]] else if r=1 then[[38,38]] else if r=2 then[[60],[60,61],[62],[62,61],[61,61],[33,61]] else if r=3 then[[43],[45]] else[[42],[47],[37]]
def a7p (r:Int) (s:PS):S:=((b9w r).find? fun x=>okB s && isS l s x).getD []
end
inductive Q where
 |typ|typed (fr:Int)|param|field|variant
 |params (ks:K) (v:Int)|function|fields (k:Int) (ks:K)|parts (k:Int)
 |item|items (ks:K)
 |stmts (ks:K)|block|stmt|let_ (fr:Int)|blocky (fr:Int)|branch|cond|match_|arms (ks:K)|arm
 |pattern|patterned (fr:Int)
 |expr (bare:Bool)|row (r:Int) (bare:Bool)|rows (r:Int) (bare:Bool) (fr:Int) (a:Int)
 |operand (bare:Bool)|prefix_ (bare:Bool)|postfix_ (bare:Bool)|gets (fr:Int) (a:Int)
 |primary (bare:Bool)|named (fr:Int) (bare:Bool)|args (ks:K)|inits (ks:K)|init
abbrev M:=Option (R×PS)
def one (i:Int):List D:=[.int .i64 i]
def two (i j:Int):List D:=[.int .i64 i,.int .i64 j]
section
variable (l:List TokQ) (go:Q->PS->M)
def cl (q:Q) (s:PS):M:=match go q s with|some (r,s1)=>if okS l s1 then some (r,s1) else none|none=>none
def ret (x:Option (Int×PS)):M:=match x with|some (i,s)=>some (rI i,s)|none=>none
def b4n (fr:Int) (n:N) (s:PS):M:=match a2p l fr n s with
 |none=>none
 |some (i,s1)=>match a3o l [59] s1 with|(_,s2)=>some (rI i,s2)
def e8u (fr:Int) (n:N) (s:PS):M:=match b4n l fr n s with
 |none=>none
 |some (r,s1)=>some (rI r.i,s1)
def mk (fr:Int) (k:Int) (t:S) (v:Int) (ks:List D) (s:PS):M:=ret (a2p l fr ⟨k,t,v,ks⟩ s)
def deeper (c:Int) (q:Q) (s:PS):M:=match c2w l c s with
 |(false,s1)=>some (rI 0,down s1)
 |(true,s1)=>match cl l go q s1 with|none=>none|some (a,s2)=>some (rI a.i,down s2)
def step:Q->PS->M
 | .typ,s=>deeper l go 116 (.typed s.at_) s
 | .typed fr,s=>match a1z l [105,54,52] s with
   |(true,s1)=>mk l fr 10 [] 0 [] s1
   |(false,s1)=>match a1z l [98,111,111,108] s1 with
   |(true,s2)=>mk l fr 11 [] 0 [] s2
   |(false,s2)=>match a1z l [40] s2 with
   |(true,s3)=>(match a3o l [41] s3 with|(_,s4)=>mk l fr 12 [] 0 [] s4)
   |(false,s3)=>match a1z l [38] s3 with
   |(true,s4)=>(match a1z l [109,117,116] s4 with
    |(true,s5)=>(match cl l go .typ s5 with|none=>none|some (r,s6)=>mk l fr 15 [] 0 (one r.i) s6)
    |(false,s5)=>match cl l go .typ s5 with|none=>none|some (r,s6)=>mk l fr 14 [] 0 (one r.i) s6)
   |(false,s4)=>match a1z l [66,111,120] s4 with
   |(true,s5)=>(match a3o l [60] s5 with|(_,s6)=>match cl l go .typ s6 with|none=>none|some (r,s7)=>match a3o l [62] s7 with|(_,s8)=>mk l fr 16 [] 0 (one r.i) s8)
   |(false,s5)=>match a9v l s5 with|(t,s6)=>mk l fr 13 t 0 [] s6
 | .param,s=>match a1z l [109,117,116] s with
   |(m,s1)=>match a9v l s1 with
   |(t,s2)=>match a3o l [58] s2 with
   |(_,s3)=>match cl l go .typ s3 with
   |none=>none
   |some (r,s4)=>match m with
    |true=>mk l s.at_ 7 t 1 (one r.i) s4
    |false=>mk l s.at_ 7 t 0 (one r.i) s4
 | .field,s=>match a9v l s with
   |(t,s2)=>match a3o l [58] s2 with
   |(_,s3)=>match cl l go .typ s3 with
   |none=>none
   |some (r,s4)=>mk l s.at_ 5 t 0 (one r.i) s4
 | .variant,s=>match a9v l s with
   |(t,s2)=>match a1z l [40] s2 with
   |(true,s3)=>(match cl l go .typ s3 with
    |none=>none
    |some (r,s4)=>match a3o l [41] s4 with|(_,s5)=>mk l s.at_ 6 t 0 (one r.i) s5)
   |(false,s3)=>mk l s.at_ 6 t 0 [] s3
 | .params ks v,s=>match okB s with
   |false=>some (⟨0,false,ks,v⟩,s)
   |true=>match isS l s [41] with
   |true=>some (⟨0,false,ks,v⟩,s)
   |false=>match cl l go .param s with
   |none=>none
   |some (r,s1)=>match okK ks with
   |false=>none
   |true=>match a1z l [44] s1 with
   |(true,s2)=>go (.params (push ks r.i) (w (v+1))) s2
   |(false,s2)=>some (⟨0,false,(push ks r.i),w (v+1)⟩,s2)
 | .function,s0=>match a3o l [102,110] s0 with
   |(_,s1)=>match a9v l s1 with
   |(t,s2)=>match a3o l [40] s2 with
   |(_,s3)=>match cl l go (.params K.o 0) s3 with
   |none=>none
   |some (p,s4)=>match a3o l [41] s4 with
   |(_,s5)=>match a1z l [45,62] s5 with
   |(true,s6)=>(match cl l go .typ s6 with
    |none=>none
    |some (r,s7)=>match okK p.ks with
    |false=>none
    |true=>match cl l go .block s7 with
    |none=>none
    |some (q,s8)=>match okK (push p.ks r.i)with
    |false=>none
    |true=>match okK (push (push p.ks r.i) q.i)with|false=>none|true=>mk l s0.at_ 2 t p.v (push (push p.ks r.i) q.i).l s8)
   |(false,s6)=>match okB s6 with
    |true=>(if s6.ns.length=s6.n/\s6.n < 1000000/\okF l (w (s6.at_ - 1)) then match okK p.ks with
     |false=>none
     |true=>match cl l go .block {s6 with n:=s6.n+1,ns:=s6.ns++[N.D ⟨12,[],0,[]⟩ (l.getD (w (s6.at_ - 1)).toNat default).e (l.getD (w (s6.at_ - 1)).toNat default).e]}with
     |none=>none
     |some (q,s8)=>match okK (push p.ks (w (((s6.n+1:Nat):Int) - 1)))with
     |false=>none
     |true=>match okK (push (push p.ks (w (((s6.n+1:Nat):Int) - 1))) q.i)with|false=>none|true=>mk l s0.at_ 2 t p.v (push (push p.ks (w (((s6.n+1:Nat):Int) - 1))) q.i).l s8
     else none)
    |false=>match cl l go .block s6 with
     |none=>none
     |some (q,s8)=>match okK p.ks with
     |false=>none
     |true=>match okK (push p.ks q.i)with|false=>none|true=>mk l s0.at_ 2 t p.v (push p.ks q.i).l s8
 | .fields k ks,s=>match okB s with
   |false=>some (rK ks,s)
   |true=>match isS l s [125] with
   |true=>some (rK ks,s)
   |false=>match decide (k=3)with
   |true=>(match cl l go .field s with
    |none=>none
    |some (r,s1)=>match okK ks with
    |false=>none
    |true=>match a1z l [44] s1 with
    |(true,s2)=>go (.fields k (push ks r.i)) s2
    |(false,s2)=>some (rK (push ks r.i),s2))
   |false=>match cl l go .variant s with
    |none=>none
    |some (r,s1)=>match okK ks with
    |false=>none
    |true=>match a1z l [44] s1 with
    |(true,s2)=>go (.fields k (push ks r.i)) s2
    |(false,s2)=>some (rK (push ks r.i),s2)
 | .parts k,s0=>match okS l (adv s0)with
   |false=>none
   |true=>match a9v l (adv s0)with
   |(t,s1)=>match a3o l [123] s1 with
   |(_,s2)=>match cl l go (.fields k K.o) s2 with
   |none=>none
   |some (p,s3)=>match a3o l [125] s3 with
   |(_,s4)=>match okK p.ks with|false=>none|true=>mk l s0.at_ k t 0 p.ks.l s4
 | .item,s=>match isS l s [115,116,114,117,99,116] with
   |true=>cl l go (.parts 3) s
   |false=>match isS l s [101,110,117,109] with
   |true=>cl l go (.parts 4) s
   |false=>cl l go .function s
 | .items ks,s=>match okB s with
   |false=>some (rK ks,s)
   |true=>match(!decide ((now l s).k=5))with
   |false=>some (rK ks,s)
   |true=>match cl l go .item s with
   |none=>none
   |some (r,s1)=>match okK ks with
   |false=>none
   |true=>go (.items (push ks r.i)) s1
 | .stmts ks,s=>match okB s with
   |false=>some (rK ks,s)
   |true=>match isS l s [125] with
   |true=>some (rK ks,s)
   |false=>match cl l go .stmt s with
   |none=>none
   |some (r,s1)=>match okK ks with
   |false=>none
   |true=>match r.b with
   |true=>some (⟨0,true,(push ks r.i),1⟩,s1)
   |false=>go (.stmts (push ks r.i)) s1
 | .block,s0=>match c2w l 98 s0 with
   |(false,s1)=>mk l s0.at_ 20 [] 0 [] (down s1)
   |(true,s1)=>match a3o l [123] s1 with
   |(_,s2)=>match cl l go (.stmts K.o) s2 with
   |none=>none
   |some (p,s3)=>match a3o l [125] s3 with
   |(_,s4)=>match okK p.ks with|false=>none|true=>mk l s0.at_ 20 [] p.v p.ks.l (down s4)
 | .stmt,s0=>match isS l s0 [108,101,116] with
   |true=>(match cl l go (.let_ s0.at_) s0 with|none=>none|some (r,s1)=>some (rI r.i,s1))
   |false=>match a1z l [119,104,105,108,101] s0 with
   |(true,s1)=>(match cl l go (.expr true) s1 with
    |none=>none
    |some (x,s2)=>match cl l go .block s2 with
    |none=>none
    |some (y,s3)=>mk l s0.at_ 24 [] 0 (two x.i y.i) s3)
   |(false,s1)=>match a1z l [114,101,116,117,114,110] s1 with
   |(true,s2)=>(match isS l s2 [59] with
    |true=>e8u l s0.at_ ⟨25,[],0,[]⟩ s2
    |false=>match cl l go (.expr false) s2 with
     |none=>none
     |some (x,s3)=>e8u l s0.at_ ⟨25,[],0,one x.i⟩ s3)
   |(false,s2)=>match a1z l [98,114,101,97,107] s2 with
   |(true,s3)=>e8u l s0.at_ ⟨26,[],0,[]⟩ s3
   |(false,s3)=>match a1z l [99,111,110,116,105,110,117,101] s3 with
   |(true,s4)=>e8u l s0.at_ ⟨27,[],0,[]⟩ s4
   |(false,s4)=>match isS l s4 [105,102] with
   |true=>cl l go (.blocky s0.at_) s4
   |false=>match isS l s4 [109,97,116,99,104] with
   |true=>cl l go (.blocky s0.at_) s4
   |false=>match isS l s4 [123] with
   |true=>cl l go (.blocky s0.at_) s4
   |false=>match cl l go (.expr false) s4 with
   |none=>none
   |some (x,s5)=>match a1z l [61] s5 with
   |(true,s6)=>(match cl l go (.expr false) s6 with
    |none=>none
    |some (y,s7)=>e8u l s0.at_ ⟨23,[],0,two x.i y.i⟩ s7)
   |(false,s6)=>match isS l s6 [125] with
   |true=>some (⟨x.i,true,K.o,0⟩,s6)
   |false=>e8u l s0.at_ ⟨22,[],0,one x.i⟩ s6
 | .let_ fr,s0=>match a3o l [108,101,116] s0 with
   |(_,s1)=>match a1z l [109,117,116] s1 with
   |(m,s2)=>match a9v l s2 with
   |(t,s3)=>match a1z l [58] s3 with
   |(true,s4)=>(match cl l go .typ s4 with
    |none=>none
    |some (x,s5)=>match a3o l [61] s5 with
    |(_,s6)=>match cl l go (.expr false) s6 with
    |none=>none
    |some (y,s7)=>match m with
     |true=>b4n l fr ⟨21,t,1,two x.i y.i⟩ s7
     |false=>b4n l fr ⟨21,t,0,two x.i y.i⟩ s7)
   |(false,s4)=>match a3o l [61] s4 with
    |(_,s6)=>match cl l go (.expr false) s6 with
    |none=>none
    |some (y,s7)=>match m with
     |true=>b4n l fr ⟨21,t,1,one y.i⟩ s7
     |false=>b4n l fr ⟨21,t,0,one y.i⟩ s7
 | .blocky fr,s0=>match cl l go .branch s0 with
   |none=>none
   |some (k,s1)=>match isS l s1 [125] with
   |true=>some (⟨k.i,true,K.o,0⟩,s1)
   |false=>match a2p l fr ⟨22,[],0,one k.i⟩ s1 with
   |none=>none
   |some (i,s2)=>match a1z l [59] s2 with
   |(_,s3)=>some (rI i,s3)
 | .branch,s=>match isS l s [105,102] with
   |true=>cl l go .cond s
   |false=>match isS l s [109,97,116,99,104] with
   |true=>cl l go .match_ s
   |false=>cl l go .block s
 | .cond,s0=>match a3o l [105,102] s0 with
   |(_,s1)=>match cl l go (.expr true) s1 with
   |none=>none
   |some (x,s2)=>match cl l go .block s2 with
   |none=>none
   |some (y,s3)=>match a1z l [101,108,115,101] s3 with
   |(false,s4)=>mk l s0.at_ 45 [] 0 (two x.i y.i) s4
   |(true,s4)=>match isS l s4 [105,102] with
    |false=>(match cl l go .block s4 with
     |none=>none
     |some (z,s5)=>mk l s0.at_ 45 [] 0 [.int .i64 x.i,.int .i64 y.i,.int .i64 z.i] s5)
    |true=>match c2w l 101 s4 with
     |(false,s5)=>mk l s0.at_ 45 [] 0 [.int .i64 x.i,.int .i64 y.i,.int .i64 0] (down s5)
     |(true,s5)=>match cl l go .cond s5 with
      |none=>none
      |some (z,s6)=>mk l s0.at_ 45 [] 0 [.int .i64 x.i,.int .i64 y.i,.int .i64 z.i] (down s6)
 | .match_,s0=>match a3o l [109,97,116,99,104] s0 with
   |(_,s1)=>match cl l go (.expr true) s1 with
   |none=>none
   |some (x,s2)=>match a3o l [123] s2 with
   |(_,s3)=>match cl l go (.arms ⟨one x.i,1⟩) s3 with
   |none=>none
   |some (p,s4)=>match a3o l [125] s4 with
   |(_,s5)=>match okK p.ks with|false=>none|true=>mk l s0.at_ 46 [] 0 p.ks.l s5
 | .arms ks,s=>match okB s with
   |false=>some (rK ks,s)
   |true=>match isS l s [125] with
   |true=>some (rK ks,s)
   |false=>match cl l go .arm s with
   |none=>none
   |some (r,s1)=>match okK ks with
   |false=>none
   |true=>go (.arms (push ks r.i)) s1
 | .arm,s0=>match cl l go .pattern s0 with
   |none=>none
   |some (x,s1)=>match a3o l [61,62] s1 with
   |(_,s2)=>match isS l s2 [123] with
   |true=>(match cl l go .block s2 with
    |none=>none
    |some (y,s3)=>match a2p l s0.at_ ⟨47,[],0,two x.i y.i⟩ s3 with
    |none=>none
    |some (i,s4)=>match a1z l [44] s4 with
    |(_,s5)=>some (rI i,s5))
   |false=>match cl l go (.expr false) s2 with
    |none=>none
    |some (y,s3)=>match a2p l s0.at_ ⟨47,[],0,two x.i y.i⟩ s3 with
    |none=>none
    |some (i,s4)=>match isS l s4 [125] with
    |true=>some (rI i,s4)
    |false=>match a3o l [44] s4 with
    |(_,s5)=>some (rI i,s5)
 | .pattern,s=>deeper l go 112 (.patterned s.at_) s
 | .patterned fr,s=>match a1z l [95] s with
   |(true,s1)=>mk l fr 50 [] 0 [] s1
   |(false,s1)=>match a1z l [116,114,117,101] s1 with
   |(true,s2)=>mk l fr 53 [] 1 [] s2
   |(false,s2)=>match a1z l [102,97,108,115,101] s2 with
   |(true,s3)=>mk l fr 53 [] 0 [] s3
   |(false,s3)=>match isS l s3 [45] with
   |true=>numS fr s3
   |false=>match decide ((now l s3).k=3)with
   |true=>numS fr s3
   |false=>match a9v l s3 with
   |(t,s4)=>match a1z l [58,58] s4 with
   |(false,s5)=>mk l fr 51 t 0 [] s5
   |(true,s5)=>match a9v l s5 with
   |(u,s6)=>match a1z l [40] s6 with
   |(false,s7)=>mk l fr 54 (t++[58,58]++u) 0 [] s7
   |(true,s7)=>match cl l go .pattern s7 with
   |none=>none
   |some (r,s8)=>match a3o l [41] s8 with
   |(_,s9)=>mk l fr 54 (t++[58,58]++u) 0 (one r.i) s9
 | .expr bare,s=>deeper l go 101 (.row 0 bare) s
 | .row r bare,s=>match decide (r=5)with
   |true=>cl l go (.prefix_ bare) s
   |false=>match cl l go (.row (w (r+1)) bare) s with
   |none=>none
   |some (a,s1)=>match cl l go (.rows r bare s.at_ a.i) s1 with
   |none=>none
   |some (a,s2)=>some (rI a.i,s2)
 | .rows r bare fr a,s=>match okB s with
   |false=>some (rI a,s)
   |true=>match(!decide (a7p l r s=[]))with
   |false=>some (rI a,s)
   |true=>match okS l (adv s)with
   |false=>none
   |true=>match cl l go (.row (w (r+1)) bare) (adv s)with
   |none=>none
   |some (b,s1)=>match a2p l fr ⟨38,a7p l r s,0,two a b.i⟩ s1 with
   |none=>none
   |some (i,s2)=>match decide (r=2)with
   |true=>some (rI i,s2)
   |false=>go (.rows r bare fr i) s2
 | .operand bare,s=>deeper l go 101 (.prefix_ bare) s
 | .prefix_ bare,s=>match a1z l [45] s with
   |(true,s1)=>(match cl l go (.operand bare) s1 with|none=>none|some (r,s2)=>mk l s.at_ 39 [] 0 (one r.i) s2)
   |(false,s1)=>match a1z l [33] s1 with
   |(true,s2)=>(match cl l go (.operand bare) s2 with|none=>none|some (r,s3)=>mk l s.at_ 40 [] 0 (one r.i) s3)
   |(false,s2)=>match a1z l [42] s2 with
   |(true,s3)=>(match cl l go (.operand bare) s3 with|none=>none|some (r,s4)=>mk l s.at_ 42 [] 0 (one r.i) s4)
   |(false,s3)=>match a1z l [38] s3 with
   |(true,s4)=>(match a1z l [109,117,116] s4 with
    |(true,s5)=>(match cl l go (.operand bare) s5 with|none=>none|some (r,s6)=>mk l s.at_ 43 [] 1 (one r.i) s6)
    |(false,s5)=>match cl l go (.operand bare) s5 with|none=>none|some (r,s6)=>mk l s.at_ 43 [] 0 (one r.i) s6)
   |(false,s4)=>cl l go (.postfix_ bare) s4
 | .postfix_ bare,s=>match cl l go (.primary bare) s with
   |none=>none
   |some (a,s1)=>match cl l go (.gets s.at_ a.i) s1 with
   |none=>none
   |some (a,s2)=>some (rI a.i,s2)
 | .gets fr a,s=>match a1z l [46] s with
   |(false,s1)=>some (rI a,s1)
   |(true,s1)=>match a9v l s1 with
   |(t,s2)=>match a2p l fr ⟨41,t,0,one a⟩ s2 with
   |none=>none
   |some (i,s3)=>go (.gets fr i) s3
 | .primary bare,s=>match okB s with
   |false=>none
   |true=>match decide ((now l s).k=3)with
   |true=>(match okS l (adv s)with|false=>none|true=>mk l s.at_ 30 [] (now l s).v [] (adv s))
   |false=>match a1z l [116,114,117,101] s with
   |(true,s1)=>mk l s.at_ 31 [] 1 [] s1
   |(false,s1)=>match a1z l [102,97,108,115,101] s1 with
   |(true,s2)=>mk l s.at_ 31 [] 0 [] s2
   |(false,s2)=>match a1z l [40] s2 with
   |(true,s3)=>(match a1z l [41] s3 with
    |(true,s4)=>mk l s.at_ 32 [] 0 [] s4
    |(false,s4)=>match cl l go (.expr false) s4 with
     |none=>none
     |some (r,s5)=>match a3o l [41] s5 with|(_,s6)=>some (rI r.i,s6))
   |(false,s3)=>match a1z l [66,111,120] s3 with
   |(true,s4)=>(match a3o l [58,58] s4 with
    |(_,s5)=>match okB s5 with
     |true=>(match(!decide ((now l s5).k=1))with
      |true=>newS s.at_ (a4w l 120 s5)
      |false=>match(!decide ((now l s5).t=[110,101,119]))with
       |true=>newS s.at_ (a4w l 120 s5)
       |false=>newS s.at_ s5)
     |false=>newS s.at_ s5)
   |(false,s4)=>match isS l s4 [105,102] with
   |true=>cl l go .branch s4
   |false=>match isS l s4 [109,97,116,99,104] with
   |true=>cl l go .branch s4
   |false=>match isS l s4 [123] with
   |true=>cl l go .branch s4
   |false=>cl l go (.named s.at_ bare) s4
 | .named fr bare,s=>match a9v l s with
   |(t,s1)=>match a1z l [40] s1 with
   |(true,s2)=>(match cl l go (.args K.o) s2 with
    |none=>none
    |some (p,s3)=>match a3o l [41] s3 with
    |(_,s4)=>match okK p.ks with|false=>none|true=>mk l fr 34 t 0 p.ks.l s4)
   |(false,s2)=>match bare with
    |true=>pickS fr t s2
    |false=>match a1z l [123] s2 with
     |(true,s3)=>(match cl l go (.inits K.o) s3 with
      |none=>none
      |some (p,s4)=>match a3o l [125] s4 with
      |(_,s5)=>match okK p.ks with|false=>none|true=>mk l fr 35 t 0 p.ks.l s5)
     |(false,s3)=>pickS fr t s3
 | .args ks,s=>match okB s with
   |false=>some (rK ks,s)
   |true=>match isS l s [41] with
   |true=>some (rK ks,s)
   |false=>match cl l go (.expr false) s with
   |none=>none
   |some (r,s1)=>match okK ks with
   |false=>none
   |true=>match a1z l [44] s1 with
   |(true,s2)=>go (.args (push ks r.i)) s2
   |(false,s2)=>some (rK (push ks r.i),s2)
 | .inits ks,s=>match okB s with
   |false=>some (rK ks,s)
   |true=>match isS l s [125] with
   |true=>some (rK ks,s)
   |false=>match cl l go .init s with
   |none=>none
   |some (r,s1)=>match okK ks with
   |false=>none
   |true=>match a1z l [44] s1 with
   |(true,s2)=>go (.inits (push ks r.i)) s2
   |(false,s2)=>some (rK (push ks r.i),s2)
 | .init,s=>match a9v l s with
   |(t,s1)=>match a3o l [58] s1 with
   |(_,s2)=>match cl l go (.expr false) s2 with
   |none=>none
   |some (r,s3)=>mk l s.at_ 36 t 0 (one r.i) s3
where
 numS (fr:Int) (s3:PS):M:=match a1z l [45] s3 with
  |(m,s4)=>match(!decide ((now l s4).k=3))with
  |true=>some (rI 0,a4w l 120 s4)
  |false=>match okS l (adv s4)with
  |false=>none
  |true=>match m with
   |true=>mk l fr 52 [] (w (0 - (now l s4).v)) [] (adv s4)
   |false=>mk l fr 52 [] (now l s4).v [] (adv s4)
 newS (fr:Int) (s5:PS):M:=match a9v l s5 with
  |(_,s6)=>match a3o l [40] s6 with
  |(_,s7)=>match cl l go (.expr false) s7 with
  |none=>none
  |some (r,s8)=>match a3o l [41] s8 with
  |(_,s9)=>mk l fr 44 [] 0 (one r.i) s9
 pickS (fr:Int) (t:S) (s2:PS):M:=match a1z l [58,58] s2 with
  |(false,s3)=>mk l fr 33 t 0 [] s3
  |(true,s3)=>match a9v l s3 with
  |(u,s4)=>match a1z l [40] s4 with
  |(false,s5)=>mk l fr 37 (t++[58,58]++u) 0 [] s5
  |(true,s5)=>match cl l go (.expr false) s5 with
  |none=>none
  |some (r,s6)=>match a3o l [41] s6 with
  |(_,s7)=>mk l fr 37 (t++[58,58]++u) 0 (one r.i) s7
end
def go (l:List TokQ):Nat->Q->PS->M
 |0=>fun _ _=>none
 |n+1=>step l (go l n)
end Go.Vm.Pa
namespace Go.Vm.Ite
open Go.Vm.Lex (TokQ)
open Go.Vm.Pa hiding go
set_option maxRecDepth 10000
def PR (s:PS):Ob:= .row 6 s.ns
theorem a9b {l:List TokQ} {s:PS} (h:okS l s=true):0<=s.at_/\s.at_ < l.length:=by simpa [okS] using h
theorem h8y {l:List TokQ} {n:Int} (h:okF l n=true):0<=n/\n < l.length:=by simpa [okF] using h
theorem f8a {l:List TokQ} {n:Int} (h:0<=n/\n < l.length):0<=n/\(l.map b2u)[n.toNat]? =some (b2u (l.getD n.toNat default)):=by
 refine⟨h.1,?_⟩
 have:n.toNat < l.length:=om
 rw[List.getElem?_map,List.getElem?_eq_getElem this]
 simp[List.getD_eq_getElem?_getD,List.getElem?_eq_getElem this]
end Go.Vm.Ite
