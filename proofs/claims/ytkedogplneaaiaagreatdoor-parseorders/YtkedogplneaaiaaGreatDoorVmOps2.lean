import GoSem.Dispatch
import Derived.KernelRfl
import Derived.Laws.AppendOwn
import Derived.Laws.Sem
import Derived.Calls
import Derived.WalkKit
import Derived.Laws.StructEq
set_option linter.unusedVariables false
set_option linter.unusedSimpArgs false
theorem om {P:Prop} (h:P:=by(omega)):P:=h
theorem kr {P:Prop} (h:P:=by(kernel_rfl)):P:=h
namespace Go.Vm
inductive D where
 |bool (b:Bool)
 |int (k:IntKind) (n:Int)
 |str (s:List UInt8)
 |sl (l:List D)
 |agg (l:List D)
 deriving Inhabited
inductive V where
 |d (x:D)
 |agg (l:List V)
 |tup (l:List V)
 |nils
 |row (id len:Nat)
 |arr (id off len:Nat)
 |ptr (id off:Nat)
 |ro (l:List D) (off:Nat)
 |fn (f:Nat) (c:List V)
 |fm (f:Nat) (a:List V)
 |nul
 |nof
 |ifc (isnil:Bool)
 |raw (x:Value)
 |nmp
 |nile
 |mp (id:Nat)
 |undef
 deriving Inhabited
inductive Ob where
 |box (c:List V)
 |frz (c:List D)
 |row (sz:Nat) (l:List D)
 |map (l:List (D×D))
 deriving Inhabited
inductive Opd where
 |t (i:Nat)
 |c (v:V)
 |g (i:Nat)
 |f (i:Nat)
 deriving Inhabited
inductive VOp where
 |mv (x:Opd)
 |pick (c a b:Opd)
 |zbox (z:List V)
 |box (x:Opd)
 |build (z:List V) (ps:List (Nat×Nat×Opd))
 |bslice (sz len:Nat) (ps:List Opd)
 |blit (sz len:Nat) (ps:List Opd)
 |brow (sz:Nat)
 |ld (n:Option Nat) (x:Opd)
 |st (n:Nat) (a x:Opd)
 |nilck (x:Opd)
 |bin (op:BinOp) (x y:Opd)
 |eqa (neg:Bool) (ks:List Nat) (x y:Opd)
 |eqb (neg:Bool) (x y:Opd)
 |isnil (neg:Bool) (x:Opd)
 |un (op:UnOp) (x:Opd)
 |conv (k:IntKind) (x:Opd)
 |mkfn (f:Nat) (caps:List Opd)
 |mkfm (f:Nat) (first:List Opd)
 |fld (off:Nat) (n:Option Nat) (x:Opd)
 |fadr (off:Nat) (x:Opd)
 |iadr (sz:Nat) (x i:Opd)
 |iadra (len sz:Nat) (x i:Opd)
 |idx (x i:Opd)
 |slcs (x:Opd) (lo hi:Option Opd)
 |slc (sz:Nat) (x:Opd) (lo hi:Option Opd)
 |ext (x:Opd) (i:Nat)
 |call (f:Nat) (args:List Opd)
 |callv (f:Opd) (args:List Opd)
 |len (str:Bool) (x:Opd)
 |convs (x:Opd)
 |app (sz bytes:Nat) (x y:Opd)
 |msl (sz bytes:Nat) (z:List V) (n:Opd)
 |mm (max:Bool) (x y:Opd)
 |abs (len:Nat) (ps:List Opd)
 |mark (x:Opd)
 |mkm
 |no
 |c0m (kk:Nat) (m k v:Opd)
 |mget (kk:Nat) (ok:Bool) (z:D) (m k:Opd)
 |ment (kk:Nat) (z:D) (m k:Opd)
 |mest (m s v:Opd)
 deriving Inhabited
structure a0b where
 dst:Option Nat
 op:VOp
 guard:Option (Nat×Bool):=none
 deriving Inhabited
inductive a0e where
 |skip
 |reg (ops:List a0b)
 |draw (m:Nat) (ops:List a0b)
 |seq (a b:a0e)
 |cond (c:Opd) (a b:a0e)
 |block (id:Nat) (b:a0e)
 |loop (keep:List Nat) (b:a0e)
 |scope (b:a0e)
 |exit (id:Nat)
 |ret
 |newrow (sz slot:Nat)
 |bindrow (sz slot off:Nat)
 |freeze (slot:Nat)
 |mkrow (sz:Nat)
 |bindto (slot off back:Nat)
 deriving Inhabited
inductive d1x where
 |tmp (t:Nat)
 |cell (t:Nat) (n:Option Nat)
 deriving Inhabited
structure VFn where
 np:Nat
 nt:Nat
 body:a0e
 res:List d1x
 keep:Bool:=false
inductive Ex where
 |nrm
 |exit (id:Nat)
 |ret
abbrev Env:=List (Nat×V)
abbrev Hp:=List Ob
def D.cells:D->List D
 | .agg l=>l
 |x=>[x]
def V.cells:V->List V
 | .d (.agg l)=>l.map V.d
 | .agg l=>l
 |x=>[x]
def V.one:V->Bool
 | .agg _| .tup _| .d (.agg _)| .undef| .raw _=>false
 |_=>true
def D.one:D->Bool
 | .agg _=>false
 |_=>true
def b6m:List V->Option (List D)
 |[]=>some []
 | .d x::r=>(b6m r).map (x:: ·)
 |_=>none
def a9w (l:List V):V:=match b6m l with|some ds=> .d (.agg ds)|none=> .agg l
def b1i (H:Hp):V->Option D
 | .d x=>some x
 | .nils=>some (.sl [])
 | .nile=>some (.sl [])
 | .row id len=>match H[id]? with|some (.row _ l)=>if l.length=len then some (.sl l) else none|_=>none
 | .arr id off len=>match H[id]? with|some (.frz c)=>if off+len<=c.length then some (.sl ((c.drop off).take len)) else none|_=>none
 |_=>none
def e4x (H:Hp):List V->Option (List D)
 |[]=>some []
 |v::r=>match b1i H v,e4x H r with|some x,some xs=>some (x::xs)|_,_=>none
def toD (H:Hp):V->Option D
 | .agg l=>(e4x H l).map .agg
 |v=>b1i H v
def toArg (H:Hp) (v:V):V:=match toD H v with|some x=> .d x|none=>v
def a1k:Env->Nat->V
 |[],_=> .undef
 |(k,v)::r,i=>if k=i then v else a1k r i
def a2d (ks:List Nat) (e:Env):Env:=ks.map fun k=>(k,a1k e k)
mutual
/-- Everything that a value leads to stands below n. -/
def V.und (n:Nat):V->Bool
 | .row id _=>decide (id < n)
 | .arr id _ _=>decide (id < n)
 | .ptr id _=>decide (id < n)
 | .mp id=>decide (id < n)
 | .agg l=>a0w n l
 | .tup l=>a0w n l
 | .fn _ l=>a0w n l
 | .fm _ l=>a0w n l
 |_=>true
def a0w (n:Nat):List V->Bool
 |[]=>true
 |v::r=>V.und n v && a0w n r
end
def cut (n:Nat) (e:Env):Env:=e.map fun(k,v)=>(k,if v.und n then v else .undef)
def c9c (op:BinOp) (k:IntKind) (x y:Int):Option Int:=
 let a:=BitVec.ofInt k.bits x
 let b:=BitVec.ofInt k.bits y
 match op with
 | .and=>some (k.wrap (a &&& b).toNat)
 | .or=>some (k.wrap (a|||b).toNat)
 | .xor=>some (k.wrap (a ^^^ b).toNat)
 | .andNot=>some (k.wrap (a &&& ~~~b).toNat)
 |_=>none
def a7n (op:BinOp):V->V->Option V
 | .d (.int k a),.d (.int k' b)=>
  match op with
  | .shl=>if 0<=b then some (.d (.int k (k.wrap (a*2 ^ (min b.toNat k.bits))))) else none
  | .shr=>if 0<=b then some (.d (.int k (a.fdiv (2 ^ (min b.toNat k.bits))))) else none
  | .add=>if k=k' then some (.d (.int k (k.wrap (a+b)))) else none
  | .sub=>if k=k' then some (.d (.int k (k.wrap (a - b)))) else none
  | .mul=>if k=k' then some (.d (.int k (k.wrap (a*b)))) else none
  | .quo=>if k=k'/\b≠0 then some (.d (.int k (k.wrap (a.tdiv b)))) else none
  | .rem=>if k=k'/\b≠0 then some (.d (.int k (a.tmod b))) else none
  | .and=>if k=k' then(c9c .and k a b).map fun n=> .d (.int k n) else none
  | .or=>if k=k' then(c9c .or k a b).map fun n=> .d (.int k n) else none
  | .xor=>if k=k' then(c9c .xor k a b).map fun n=> .d (.int k n) else none
  | .andNot=>if k=k' then(c9c .andNot k a b).map fun n=> .d (.int k n) else none
  | .eql=>if k=k' then some (.d (.bool (a==b))) else none
  | .neq=>if k=k' then some (.d (.bool (a !=b))) else none
  | .lss=>if k=k' then some (.d (.bool (decide (a < b)))) else none
  | .leq=>if k=k' then some (.d (.bool (decide (a<=b)))) else none
  | .gtr=>if k=k' then some (.d (.bool (decide (b < a)))) else none
  | .geq=>if k=k' then some (.d (.bool (decide (b<=a)))) else none
 | .d (.str a),.d (.str b)=>
  match op with
  | .add=>if a.length+b.length<=9223372036854775807 then some (.d (.str (a++b))) else none
  | .eql=>some (.d (.bool (a==b)))
  | .neq=>some (.d (.bool !(a==b)))
  |_=>none
 |_,_=>none
def eq1:D->D->Bool
 | .bool a,.bool b=>a==b
 | .int _ a,.int _ b=>a==b
 | .str a,.str b=>a==b
 |_,_=>false
def eqL:List D->List D->Bool
 |[],[]=>true
 |a::x,b::y=>eq1 a b && eqL x y
 |_,_=>false
def kindOk:List Nat->List D->List D->Bool
 |[],[],[]=>true
 |0::ks,.bool _::a,.bool _::b=>kindOk ks a b
 |1::ks,.int k _::a,.int k' _::b=>k==k' && kindOk ks a b
 |2::ks,.str _::a,.str _::b=>kindOk ks a b
 |_,_,_=>false
def unV (op:UnOp):V->Option V
 | .d (.int k n)=>match op with
   | .neg=>some (.d (.int k (k.wrap (0 - n))))
   |_=>none
 | .d (.bool b)=>match op with
   | .not=>some (.d (.bool !b))
   |_=>none
 |_=>none
def putAt:List V->Nat->List V->List V
 |cs,_,[]=>cs
 |[],_,_=>[]
 |_::cs,0,v::vs=>v::putAt cs 0 vs
 |c::cs,n+1,vs=>c::putAt cs n vs
def b9z (z:List V):List (Nat×Nat×V)->Option (List V)
 |[]=>some z
 |(off,n,v)::r=>if v.cells.length=n/\off+n<=z.length then b9z (putAt z off v.cells) r else none
def a9d (H:Hp):V->Option (List V×Nat)
 | .ptr id off=>match H[id]? with
   |some (.box c)=>some (c,off)
   |some (.frz c)=>some (c.map V.d,off)
   |_=>none
 | .ro l off=>some (l.map V.d,off)
 |_=>none
def a5q (n:Option Nat) (c:List V) (off:Nat):Option V:=
 match n with
 |none=>c[off]?
 |some n=>if off+n<=c.length then some (a9w ((c.drop off).take n)) else none
def b7p (H:Hp) (n:Option Nat) (p:V):Option V:=
 match a9d H p with
 |none=>none
 |some (c,off)=>a5q n c off
def b0s (c:List V) (off:Nat):List V->Bool
 |[.row i _]=>match c[off]? with|some (.row j _)=>Nat.beq i j|_=>false
 |_=>false
def c2g (b:Nat) (H:Hp) (n:Nat) (p x:V):Option Hp:=
 match p with
 | .ptr id off=>match H[id]? with
   |some (.box c)=>if x.cells.length=n/\off+n<=c.length/\x.cells.all V.one/\(a0w id x.cells||decide (b<=id)||b0s c off x.cells) then some (H.set id (.box (putAt c off x.cells))) else none
   |_=>none
 |_=>none
def a3z (v:V):Option Nat:=match v with| .d (.int _ n)=>if 0<=n then some n.toNat else none|_=>none
def c9n (v:V):Option Nat:=match v with
 | .d (.sl l)=>some l.length
 | .nils=>some 0
 | .nile=>some 0
 | .row _ n=>some n
 | .arr _ _ n=>some n
 |_=>none
def lsize (H:Hp) (v:V):Option (List D):=match b1i H v with|some (.sl l)=>some l|_=>none
def roomy (n bytes:Nat):Prop:=n*bytes<=140737488355328/\n<=9223372036854775807
instance (n b:Nat):Decidable (roomy n b):=inferInstanceAs (Decidable (_/\_))
def a8e:Nat->D->Bool
 |0,.bool _=>true
 |1,.int .i64 _=>true
 |2,.str _=>true
 |_,_=>false
def b2c (kk:Nat) (l:List (D×D)):Bool:=l.all fun p=>a8e kk p.1
def c9r (k:D):List (D×D)->Option D
 |[]=>none
 |(a,v)::r=>if eq1 k a then some v else c9r k r
def a5j (k:D):List (D×D)->Option Nat
 |[]=>none
 |(a,_)::r=>if eq1 k a then some 0 else(a5j k r).map (· +1)
def f8i (k v:D):List (D×D)->List (D×D)
 |[]=>[(k,v)]
 |(a,x)::r=>if eq1 k a then(a,v)::r else(a,x)::f8i k v r
def c0m (i:Nat) (v:D) (l:List (D×D)):List (D×D):=l.modify i fun p=>(p.1,v)
abbrev Orc:=Nat->List V->Hp->Option (V×Hp)
structure Cx where
 gv:Nat->List D
 fx:Nat->Option Obj:=fun _=>none
def evO (cx:Cx) (e:Env):Opd->V
 | .t i=>a1k e i
 | .c v=>v
 | .g i=> .ro (cx.gv i) 0
 | .f i=> .fn i []
def h4p (ok:Bool) (z:D) (r:Option D):V:=match ok,r with
 |true,some v=> .tup [.d v,.d (.bool true)]
 |true,none=> .tup [.d z,.d (.bool false)]
 |false,some v=> .d v
 |false,none=> .d z
def a0q (cx:Cx) (orc:Orc) (b:Nat) (e:Env) (H:Hp):VOp->Option (V×Hp)
 | .mv x=>some (evO cx e x,H)
 | .pick c a b=>match evO cx e c with
   | .d (.bool t)=>some (if t then evO cx e a else evO cx e b,H)
   |_=>none
 | .zbox z=>some (.ptr H.length 0,H++[.box z])
 | .box x=>let c:=(evO cx e x).cells;if c.all V.one then some (.ptr H.length 0,H++[.box c]) else none
 | .build z ps=>if ps.all fun p=>(evO cx e p.2.2).cells.all V.one then(b9z z (ps.map fun p=>(p.1,p.2.1,evO cx e p.2.2))).map fun c=>(a9w c,H) else none
 | .bslice sz len ps=>
  match toDs' cx e H ps with
  |some l=>if l.length=len/\l.all (fun x=>x.cells.length==sz)/\0 < sz/\len*sz<=16777216 then some (.d (.sl l),H) else none
  |none=>none
 | .blit sz len ps=>
  match toDs' cx e H ps with
  |some l=>if l.length=len/\l.all (fun x=>x.cells.length==sz)/\0 < sz/\len*sz<=16777216 then some (.row H.length len,H++[.row sz l]) else none
  |none=>none
 | .brow sz=>if 0 < sz then some (.nile,H) else none
 | .abs len ps=>
  match toDs' cx e H ps with
  |some l=>if l.length=len/\l.all D.one/\len<=16777216 then some (.arr H.length 0 len,H++[.frz l]) else none
  |none=>none
 | .mark x=>match evO cx e x with
   | .arr id off len=>match H[id]? with
     |some (.frz _)=>some (.arr id off len,H)
     |_=>none
   |_=>none
 | .ld n x=>(b7p H n (evO cx e x)).map fun v=>(v,H)
 | .st n a x=>(c2g b H n (evO cx e a) (evO cx e x)).map fun H'=>(.undef,H')
 | .nilck x=>match evO cx e x with
   | .ptr id off=>some (.ptr id off,H)
   | .fn f c=>some (.fn f c,H)
   | .fm f a=>some (.fm f a,H)
   |_=>none
 | .bin op x y=>(a7n op (evO cx e x) (evO cx e y)).map fun v=>(v,H)
 | .eqa neg ks x y=>match evO cx e x,evO cx e y with
   | .d (.agg a),.d (.agg b)=>if kindOk ks a b then some (.d (.bool (if neg then !eqL a b else eqL a b)),H) else none
   |_,_=>none
 | .eqb neg x y=>match evO cx e x,evO cx e y with
   | .d (.bool a),.d (.bool b)=>some (.d (.bool (if neg then !(a==b) else a==b)),H)
   |_,_=>none
 | .isnil neg x=>match evO cx e x with
   | .ifc b=>some (.d (.bool (if neg then !b else b)),H)
   |_=>none
 | .un op x=>(unV op (evO cx e x)).map fun v=>(v,H)
 | .conv k x=>match evO cx e x with
   | .d (.int _ n)=>some (.d (.int k (k.wrap n)),H)
   |_=>none
 | .mkfn f caps=>some (.fn f (caps.map (evO cx e)),H)
 | .mkfm f first=>some (.fm f (first.map (evO cx e)),H)
 | .fld off n x=>match evO cx e x with
   | .d (.agg c)=>(a5q n (c.map V.d) off).map fun v=>(v,H)
   | .agg c=>(a5q n c off).map fun v=>(v,H)
   |_=>none
 | .fadr off x=>match evO cx e x with
   | .ptr id o=>some (.ptr id (o+off),H)
   | .ro l o=>some (.ro l (o+off),H)
   |_=>none
 | .iadr sz x i=>match a3z (evO cx e i)with
   |none=>none
   |some n=>match evO cx e x with
    | .arr id off len=>if n < len then some (.ptr id (off+n*sz),H) else none
    |v=>match lsize H v with
     |some l=>match l[n]? with
      |some y=>if y.cells.length=sz then some (.ro y.cells 0,H) else none
      |none=>none
     |none=>none
 | .iadra len sz x i=>match a3z (evO cx e i)with
   |none=>none
   |some n=>if n < len then match evO cx e x with
    | .ptr id o=>some (.ptr id (o+n*sz),H)
    | .ro l o=>some (.ro l (o+n*sz),H)
    |_=>none else none
 | .idx x i=>match a3z (evO cx e i),evO cx e x with
   |some n,.d (.str s)=>(s[n]?).map fun b=>(.d (.int .u8 b.toNat),H)
   |_,_=>none
 | .slcs x lo hi=>match evO cx e x,bound cx e 0 lo with
   | .d (.str s),some l=>match bound cx e s.length hi with
     |some h=>if l<=h/\h<=s.length then some (.d (.str ((s.take h).drop l)),H) else none
     |none=>none
   |_,_=>none
 | .slc sz x lo hi=>match lsize H (evO cx e x),bound cx e 0 lo with
   |some s,some l=>match bound cx e s.length hi with
    |some h=>if l<=h/\h<=s.length/\(lo.isNone||s.all (fun y=>y.cells.length==sz))=true then some (.d (.sl ((s.take h).drop l)),H) else none
    |none=>none
   |_,_=>none
 | .ext x i=>match evO cx e x with
   | .tup l=>(l[i]?).map fun v=>(v,H)
   |_=>none
 | .call f args=>orc f (args.map fun x=>toArg H (evO cx e x)) H
 | .callv f args=>match evO cx e f with
   | .fn f c=>orc f (args.map (fun x=>toArg H (evO cx e x))++c) H
   | .fm f a=>orc f (a++args.map (fun x=>toArg H (evO cx e x))) H
   |_=>none
 | .len str x=>match str,evO cx e x with
   |true,.d (.str s)=>some (.d (.int .i64 s.length),H)
   |false,v=>(c9n v).map fun(n:Nat)=>(V.d (.int .i64 (n:Int)),H)
   |_,_=>none
 | .convs x=>match evO cx e x with
   | .d (.str s)=>some (.d (.str s),H)
   |_=>none
 | .app sz bytes x y=>match lsize H (evO cx e y)with
   |none=>none
   |some ys=>if ys.all (fun y=>y.cells.length==sz)/\0 < sz then
    (match evO cx e x with
      | .nile=>if ys=[] then some (.nile,H) else if roomy ys.length bytes then some (.row H.length ys.length,H++[.row sz ys]) else none
      | .nils=>if ys=[] then some (.nils,H) else if roomy ys.length bytes then some (.row H.length ys.length,H++[.row sz ys]) else none
      | .row id len=>match H[id]? with
        |some (.row sz' l)=>if sz'=sz/\l.length=len/\roomy (len+ys.length) bytes then some (.row id (len+ys.length),H.set id (.row sz (l++ys))) else none
        |_=>none
      |_=>none) else none
 | .msl sz bytes z n=>match evO cx e n with
   | .d (.int _ n)=>if 0<=n/\roomy n.toNat bytes/\z.length=1/\sz=1 then some (.arr H.length 0 n.toNat,H++[.box (List.replicate n.toNat (z.headD .undef))]) else none
   |_=>none
 | .no=>none
 | .mkm=>some (.mp H.length,H++[.map []])
 | .c0m kk m k v=>match evO cx e m,evO cx e k,toD H (evO cx e v)with
   | .mp id,.d k,some v=>match H[id]? with
     |some (.map l)=>if a8e kk k && b2c kk l then some (.undef,H.set id (.map (f8i k v l))) else none
     |_=>none
   |_,_,_=>none
 | .mget kk ok z m k=>match evO cx e m,evO cx e k with
   | .mp id,.d k=>match H[id]? with
     |some (.map l)=>if a8e kk k && b2c kk l then some (h4p ok z (c9r k l),H) else none
     |_=>none
   |_,_=>none
 | .ment kk z m k=>match evO cx e m,evO cx e k with
   | .mp id,.d k=>match H[id]? with
     |some (.map l)=>if a8e kk k && b2c kk l then(match a5j k l with
      |some i=>(l[i]?).map fun p=>(.tup [.d p.2,.d (.int .i64 i)],H)
      |none=>some (.tup [.d z,.d (.int .i64 l.length)],H.set id (.map (l++[(k,z)])))) else none
     |_=>none
   |_,_=>none
 | .mest m s v=>match evO cx e m,evO cx e s,toD H (evO cx e v)with
   | .mp id,.d (.int _ n),some v=>match H[id]? with
     |some (.map l)=>if 0<=n/\n.toNat < l.length then some (.undef,H.set id (.map (c0m n.toNat v l))) else none
     |_=>none
   |_,_,_=>none
 | .mm mx x y=>match evO cx e x,evO cx e y with
   | .d (.int k a),.d (.int k' b)=>if k=k' then some (.d (.int k (if mx then max a b else min a b)),H) else none
   |_,_=>none
where
 toDs' (cx:Cx) (e:Env) (H:Hp):List Opd->Option (List D)
  |[]=>some []
  |x::r=>match toD H (evO cx e x),toDs' cx e H r with|some y,some ys=>some (y::ys)|_,_=>none
 bound (cx:Cx) (e:Env) (dflt:Nat):Option Opd->Option Nat
  |none=>some dflt
  |some x=>a3z (evO cx e x)
structure St where
 e:Env
 h:Hp
 b:Nat
def a7y (dst:Option Nat) (v:V) (e:Env):Env:=match dst with|some d=>(d,v)::e|none=>e
def lay (dst:Option Nat) (e:Env) (b:Nat) (r:Option (V×Hp)):Option St:=r.map fun x=>⟨a7y dst x.1 e,x.2,b⟩
def grd (v:V) (b:Bool) (dst:Option Nat) (s:St) (r:Option (V×Hp)):Option St:=
 match v with
 | .d (.bool t)=>if t=b then lay dst s.e s.b r else some ⟨a7y dst (.tup []) s.e,s.h,s.b⟩
 | .tup []=>some ⟨a7y dst (.tup []) s.e,s.h,s.b⟩
 |_=>none
def a0f (cx:Cx) (orc:Orc) (o:a0b) (s:St):Option St:=
 match o.guard with
 |none=>lay o.dst s.e s.b (a0q cx orc s.b s.e s.h o.op)
 |some (g,b)=>grd (a1k s.e g) b o.dst s (a0q cx orc s.b s.e s.h o.op)
def a0s (cx:Cx) (orc:Orc):List a0b->St->Option St
 |[],s=>some s
 |o::r,s=>(a0f cx orc o s).bind (a0s cx orc r)
def a4k (n:Nat):Hp->Bool
 |[]=>true
 | .box c::l=>a0w n c && a4k n l
 |_::l=>a4k n l
open Classical in
noncomputable def grew (h h':Hp):Bool:=decide (∃ l,h'=h++l) && a4k h'.length (h'.drop h.length)
def b7i (d:Option Nat) (s:St):Bool:=match d with|some d=>(a1k s.e d).und s.h.length|none=>true
noncomputable def a2c (cx:Cx) (orc:Orc):Nat->List a0b->St->Option St
 |_,[],s=>some s
 |0,r,s=>a0s cx orc r s
 |m+1,o::r,s=>(a0f cx orc o s).bind fun s'=>if(grew s.h s'.h && b7i o.dst s')=true then a2c cx orc m r s' else none
end Go.Vm
namespace Go.Vm
structure Ann where
 keep:Nat->List Nat
 ghost:Nat->List a0e
def d2v:Value->Option V
 | .bool b=>some (.d (.bool b))
 | .int k n=>some (.d (.int k n))
 | .string s=>some (.d (.str s.data.toList))
 | .pointer none=>some .nul
 | .slice none 0 0=>some .nils
 | .nilFunc=>some .nof
 | .nilIface=>some (.ifc true)
 | .map none=>some .nmp
 |_=>none
def b3l:List Value->Option (List V)
 |[]=>some []
 |x::r=>match d2v x,b3l r with|some v,some vs=>some (v::vs)|_,_=>none
def a8j:Operand->Option Opd
 | .tmp t=>some (.t t)
 | .const (.agg c)=>(b3l c.toList).map fun l=> .c (a9w l)
 | .const v=>(d2v v).map .c
 | .global g=>some (.g g)
 | .func f=>some (.f f)
def g7h:Option Operand->Option (Option Opd)
 |none=>some none
 |some x=>(a8j x).map some
def b1q:List Operand->Option (List Opd)
 |[]=>some []
 |x::r=>match a8j x,b1q r with|some v,some vs=>some (v::vs)|_,_=>none
def zeroCells (P:Program) (t:TypeId):Option (List V):=
 match P.info? t with
 |some i=>match i.zero with|some z=>b3l z.cells.toList|none=>none
 |none=>none
def sizeT (P:Program) (t:TypeId):Option Nat:=(P.info? t).map (·.size)
def aggT (P:Program) (t:TypeId):Option Bool:=(P.underlying t).map fun
 | .struct _| .array _ _=>true
 |_=>false
def b8b (P:Program) (t:TypeId):Option (Option Nat):=
 match aggT P t with
 |some true=>(sizeT P t).map some
 |some false=>if sizeT P t=some 1 then some none else none
 |none=>none
def c8h (fs:Array Field) (P:Program):List (Nat×Operand)->Option (List (Nat×Nat×Opd))
 |[]=>some []
 |(i,x)::r=>match fs[i]?,a8j x,c8h fs P r with
  |some f,some v,some vs=>(sizeT P f.type).map fun n=>(f.offset,n,v)::vs
  |_,_,_=>none
def c0v (P:Program):Nat->List Field->Option (List Nat)
 |_,[]=>some []
 |n,f::r=>
  if f.offset=n/\f.name≠ "_" then
   match P.underlying f.type,c0v P (n+1) r with
   |some .bool,some ks=>some (0::ks)
   |some (.int _),some ks=>some (1::ks)
   |some .string,some ks=>some (2::ks)
   |_,_=>none
  else none
def d3h (P:Program) (t:TypeId):Option (List Nat):=
 match P.underlying t with
 |some (.struct fs)=>if P.stoodInHeld t=false/\P.eqGuardType P.depth t=false then c0v P 0 fs.toList else none
 |_=>none
def b0u:Nat->List (Nat×Operand)->Bool
 |_,[]=>true
 |n,(i,_)::r=>i==n && b0u (n+1) r
def e3r (P:Program) (t:TypeId):Option D:=
 match(P.info? t).bind (·.zero)with
 |some (.agg c)=>((b3l c.toList).bind b6m).map .agg
 |some v=>match d2v v with
  |some (.d x)=>some x
  |_=>none
 |none=>none
def f9f (P:Program) (t:TypeId):Option Nat:=match P.underlying t with
 |some .bool=>some 0
 |some (.int .i64)=>some 1
 |some .string=>some 2
 |_=>none
def b2i (P:Program):Op->Option VOp
 | .move x| .assign x=>(a8j x).map .mv
 | .pick c a b=>match a8j c,a8j a,a8j b with|some c,some a,some b=>some (.pick c a b)|_,_,_=>none
 | .alloc t=>(zeroCells P t).map .zbox
 | .box _ x=>(a8j x).map .box
 | .build t ps=>match P.underlying t,zeroCells P t with
   |some (.struct fs),some z=>if fs.toList.all (fun f=>(P.info? f.type).isSome) then(c8h fs P ps.toList).map fun ps=> .build z ps else none
   |_,_=>none
 | .buildSlice t len ps=>match P.underlying t with
   |some (.slice e)=>match sizeT P e,b1q (ps.toList.map (·.2))with
    |some sz,some xs=>if b0u 0 ps.toList && xs.length==len && (zeroCells P e).isSome then(match P.underlying e with
     |some (.int .u8)=>if sz=1 then some (.abs len xs) else none
     |_=>if len=0/\0 < sz then some (.brow sz) else some (.bslice sz len xs)) else none
    |_,_=>none
   |_=>none
 | .load t a=>match b8b P t,a8j a with|some n,some a=>some (.ld n a)|_,_=>none
 | .store t a x=>match sizeT P t,a8j a,a8j x with|some n,some a,some x=>some (.st n a x)|_,_,_=>none
 | .nilCheck x=>(a8j x).map .nilck
 | .binOp op t x y _=>match a8j x,a8j y with
   |some a,some b=>
    match P.underlying t with
    |some (.int _)|some .string=>some (.bin op a b)
    |some .bool=>(match op with
     | .eql=>some (.eqb false a b)
     | .neq=>some (.eqb true a b)
     |_=>none)
    |some (.struct _)=>(match op with
     | .eql=>(d3h P t).map fun ks=> .eqa false ks a b
     | .neq=>(d3h P t).map fun ks=> .eqa true ks a b
     |_=>none)
    |some (.interface _)=>(match op,y with
     | .eql,.const .nilIface=>some (.isnil false a)
     | .neq,.const .nilIface=>some (.isnil true a)
     |_,_=>none)
    |_=>none
   |_,_=>none
 | .unOp op _ x=>(a8j x).map (.un op)
 | .convert s t x=>match P.underlying s,P.underlying t,a8j x with
   |some (.int _),some (.int k),some x=>some (.conv k x)
   |some .string,some .string,some x=>some (.convs x)
   |some (.slice e),_,some x=>if s=t then(match P.underlying e with|some (.int .u8)=>some (.mark x)|_=>none) else none
   |_,_,_=>none
 | .makeFunc (.func f) first caps=>if first.isEmpty then(b1q caps.toList).map (.mkfn f) else if caps.isEmpty then(b1q first.toList).map (.mkfm f) else none
 | .makeSlice t (.tmp l) (.tmp c)=>match P.underlying t with
   |some (.slice e)=>match P.info? e,zeroCells P e with
    |some i,some z=>if l==c then some (.msl i.size i.bytes z (.t l)) else none
    |_,_=>none
   |_=>none
 | .slice t x lo hi none=>match a8j x,g7h lo,g7h hi with
   |some x,some lo,some hi=>match P.underlying t with
    |some .string=>some (.slcs x lo hi)
    |some (.slice e)=>(sizeT P e).map fun sz=> .slc sz x lo hi
    |_=>none
   |_,_,_=>none
 | .fieldAddr s x f=>match P.underlying s,a8j x with
   |some (.struct fs),some x=>match fs[f]? with
    |some f=>if sizeT P f.type=some 0 then none else if(sizeT P f.type).isNone then none else some (.fadr f.offset x)
    |none=>none
   |_,_=>none
 | .field t x f=>match P.underlying t,a8j x with
   |some (.struct fs),some x=>match fs[f]? with
    |some f=>(b8b P f.type).map fun n=> .fld f.offset n x
    |none=>none
   |_,_=>none
 | .indexAddr t x i=>match P.underlying t,a8j x,a8j i with
   |some (.slice e),some x,some i=>(sizeT P e).map fun sz=> .iadr sz x i
   |some (.array n e),some x,some i=>(sizeT P e).map fun sz=> .iadra n sz x i
   |_,_,_=>none
 | .index t x i=>match P.underlying t,a8j x,a8j i with
   |some .string,some x,some i=>some (.idx x i)
   |_,_,_=>none
 | .extract x i=>(a8j x).map fun x=> .ext x i
 | .makeMap _ none=>some .mkm
 | .mapUpdate t m k x| .insert t m k x=>match P.underlying t,a8j m,a8j k,a8j x with
   |some (.map kt _),some m,some k,some x=>(f9f P kt).map fun kk=> .c0m kk m k x
   |_,_,_,_=>none
 | .lookup t m k ok=>match P.underlying t,a8j m,a8j k with
   |some (.map kt et),some m,some k=>match f9f P kt,e3r P et with
    |some kk,some z=>some (.mget kk ok z m k)
    |_,_=>none
   |_,_,_=>none
 | .mapEntry t m k=>match P.underlying t,a8j m,a8j k with
   |some (.map kt et),some m,some k=>match f9f P kt,e3r P et with
    |some kk,some z=>some (.ment kk z m k)
    |_,_=>none
   |_,_,_=>none
 | .entryStore t m s x=>match a8j m,a8j s,a8j x with
   |some m,some s,some x=>some (.mest m s x)
   |_,_,_=>none
 | .call c=>match c.callee with
   | .value (.func f)=>(b1q c.args.toList).map (.call f)
   | .value (.tmp t)=>(b1q c.args.toList).map (.callv (.t t))
   | .builtin .len=>match c.args.toList,c.argTypes.toList with
     |[x],[t]=>match P.underlying t with
      |some .string=>(a8j x).map (.len true)
      |some (.slice _)=>(a8j x).map (.len false)
      |_=>none
     |_,_=>none
   | .builtin .append=>match c.args.toList,c.argTypes.toList with
     |[x,y],[t,u]=>match P.underlying t,P.underlying u,a8j x,a8j y with
      |some (.slice e),some (.slice _),some x,some y=>match P.info? e with
       |some i=>if(zeroCells P e).map (·.length)=some i.size/\t=u then some (.app i.size i.bytes x y) else none
       |none=>none
      |_,_,_,_=>none
     |_,_=>none
   | .builtin .max=>match c.args.toList with|[x,y]=>(match a8j x,a8j y with|some x,some y=>some (.mm true x y)|_,_=>none)|_=>none
   | .builtin .min=>match c.args.toList with|[x,y]=>(match a8j x,a8j y with|some x,some y=>some (.mm false x y)|_,_=>none)|_=>none
   |_=>none
 |_=>none
def g4a (P:Program) (o:Op):Option VOp:=some ((b2i P o).getD .no)
def i1m (ops:List Oper) (o:Oper):Bool:=match o.op,o.dst with
 | .buildSlice _ _ _,some t=>ops.any fun b=>(match b.op,b.dst with
   | .build _ ps,some u=>(ps.toList.any fun p=>match p.2 with| .tmp x=>x==t|_=>false) && ops.any fun s=>(match s.op with| .store _ _ (.tmp x)=>x==u|_=>false)
   |_,_=>false)
 |_,_=>false
def g9d:Bool->VOp->VOp
 |true,.bslice sz len ps=> .blit sz len ps
 |_,v=>v
def b8v (P:Program) (ops:Array Oper) (o:Oper):Option a0b:=
 match(g4a P o.op).map (g9d (i1m ops.toList o))with
 |none=>none
 |some v=>match o.guard with
  |none=>some ⟨o.dst,v,none⟩
  |some (j,b)=>match(ops[j]?).bind (·.dst)with
   |some s=>some ⟨o.dst,v,some (s,b)⟩
   |none=>none
def a1l (P:Program) (ops:Array Oper):List Oper->Option (List a0b)
 |[]=>some []
 |o::r=>match b8v P ops o,a1l P ops r with|some v,some vs=>some (v::vs)|_,_=>none
def a4y (ops:List Oper):List Nat:=
 go ops []
where
 go:List Oper->List Nat->List Nat
  |[],acc=>acc
  |o::r,acc=>go r (acc++[o.after.toList.foldl (fun s e=>if Region.binds .any e then s|||2 ^ e.on|||acc.getD e.on 0 else s) 0])
def VOp.a5g:VOp->List Opd
 | .mv x| .box x| .ld _ x| .nilck x| .un _ x| .conv _ x| .fld _ _ x| .fadr _ x| .ext x _| .len _ x| .convs x| .mark x=>[x]
 | .pick c a b=>[c,a,b]
 | .zbox _=>[]
 | .build _ ps=>ps.map fun p=>p.2.2
 | .bslice _ _ ps| .blit _ _ ps=>ps
 | .abs _ ps=>ps
 | .st _ a x=>[a,x]
 | .isnil _ x=>[x]
 | .mkm| .no| .brow _=>[]
 | .c0m _ x y z| .mest x y z=>[x,y,z]
 | .mget _ _ _ x y| .ment _ _ x y=>[x,y]
 | .bin _ x y| .eqa _ _ x y| .eqb _ x y| .iadr _ x y| .iadra _ _ x y| .idx x y| .app _ _ x y| .mm _ x y=>[x,y]
 | .mkfn _ c=>c
 | .mkfm _ c=>c
 | .slcs x lo hi| .slc _ x lo hi=>x::(lo.toList++hi.toList)
 | .call _ args=>args
 | .callv f args=>f::args
 | .msl _ _ _ n=>[n]
def Opd.slots:Opd->List Nat
 | .t i=>[i]
 |_=>[]
def a0b.names (o:a0b):List Nat:=o.dst.toList++o.op.a5g.flatMap Opd.slots++(match o.guard with|some (g,_)=>[g]|none=>[])
def Opd.lt (N:Nat):Opd->Bool
 | .t i=>decide (i < N)
 |_=>true
def a0b.okN (N:Nat) (o:a0b):Bool:=
 (match o.dst with|some d=>decide (d < N)|none=>true) && o.op.a5g.all (Opd.lt N) && (match o.guard with|some (g,_)=>decide (g < N)|none=>true)
def a0e.okN (N:Nat):a0e->Bool
 | .reg ops| .draw _ ops=>ops.all (a0b.okN N)
 | .seq a b=>a0e.okN N a && a0e.okN N b
 | .cond c a b=>Opd.lt N c && a0e.okN N a && a0e.okN N b
 | .block _ b| .scope b=>a0e.okN N b
 | .loop ks b=>ks.all (fun k=>decide (k < N)) && a0e.okN N b
 | .newrow _ t| .bindrow _ t _| .bindto t _ _| .freeze t=>decide (t < N)
 |_=>true
def VFn.ok (f:VFn):Bool:=f.body.okN f.nt && f.res.all (fun| .tmp t=>decide (t < f.nt)| .cell t _=>decide (t < f.nt)) && decide (f.np<=f.nt)
def g1c (ops:List Oper):Nat:=
 let b:=a4y ops
 let full (i:Nat):Bool:=b.getD i 0 % 2 ^ i==2 ^ i - 1
 let rec go:Nat->Nat
  |0=>0
  |n+1=>if full n then go n else n+1
 go ops.length
def b1p (ops:Array Oper) (vs:List a0b) (m:Nat):Bool:=
 let l:=ops.toList
 let b:=a4y l
 let w:=vs.take m
 (l.zipIdx.all fun(o,i)=>o.after.all fun e=> !Region.binds .any e||decide (e.on < i)) &&
 (l.zipIdx.all fun(_,i)=>decide (i < m)||(List.range i).all fun k=>(b.getD i 0).testBit k) &&
 (w.zipIdx.all fun(o,i)=>o.names.all fun t=>w.zipIdx.all fun(p,k)=>
   k==i||p.dst !=some t||(if k < i then(b.getD i 0).testBit k else(b.getD k 0).testBit i)) && decide (m<=vs.length)
def b0d:Code->Option Nat
 | .region id _ _=>some id
 | .seq a b=>(b0d a).orElse fun _=>b0d b
 | .cond _ a b=>(b0d a).orElse fun _=>b0d b
 | .block _ b| .loop b| .scope b=>b0d b
 |_=>none
def a7d:List a0e->a0e->a0e
 |[],c=>c
 |g::r,c=> .seq g (a7d r c)
def a0e.a6k:a0e->Bool
 | .newrow _ _| .bindrow _ _ _| .freeze _| .mkrow _| .bindto _ _ _=>true
 |_=>false
def c6q (A:Ann) (b:Code):List a0e:=(b0d b).elim [] fun i=>A.ghost (i+1000000)
def tr (P:Program) (A:Ann):Code->Option a0e
 | .skip=>some .skip
 | .label _=>some .skip
 | .region id ops draw=>match a1l P ops ops.toList with
   |none=>none
   |some vs=>if(A.ghost id).all a0e.a6k=false then none else if draw then(if b1p ops vs (g1c ops.toList) then some (a7d (A.ghost id) (.draw (g1c ops.toList) vs)) else none)
    else some (a7d (A.ghost id) (.reg vs))
 | .seq a b=>match tr P A a,tr P A b with|some x,some y=>some (.seq x y)|_,_=>none
 | .cond c a b=>match a8j c,tr P A a,tr P A b with|some c,some x,some y=>some (.cond c x y)|_,_,_=>none
 | .block id b=>(tr P A b).map (.block id)
 | .loop b=>if(c6q A b).all a0e.a6k=false then none else(tr P A b).map fun v=>a7d (c6q A b) (.loop ((b0d b).elim [] A.keep) v)
 | .scope b=>(tr P A b).map .scope
 | .exit id=>some (.exit id)
 | .ret=>some .ret
 |_=>none
def c1i (P:Program):List ResultVar->Option (List d1x)
 |[]=>some []
 | .tmp t::r=>(c1i P r).map (.tmp t:: ·)
 | .cell a t::r=>match b8b P t,c1i P r with|some n,some rs=>some (.cell a n::rs)|_,_=>none
def d7l (P:Program) (A:Ann) (keep:Bool) (fn:Func):Option VFn:=
 match fn.body with
 |none=>none
 |some c=>match tr P A c,c1i P fn.results.toList with
  |some b,some rs=>some ⟨fn.params.size+fn.nfree,fn.ntmps,b,rs,keep⟩
  |_,_=>none
end Go.Vm
namespace Go.Vm
structure Gh where
 J:Nat->Option (Nat×Nat)
 C:Nat->List Value
mutual
def a0p (C:Nat->List Value):D->List Value->Prop
 | .bool b,vs=>vs=[.bool b]
 | .int k n,vs=>vs=[.int k n]
 | .str s,vs=>vs=[.string ⟨s.toArray⟩]
 | .agg l,vs=>a1m C l vs
 | .sl l,vs=> ∃ a cap,vs=[.slice a l.length cap]/\l.length<=cap/\(l=[]\/∃ b off sz us,a=some ⟨b,off,none⟩/\0 < sz/\us <+:(C b).drop off/\a1y C sz l us)
def a1m (C:Nat->List Value):List D->List Value->Prop
 |[],vs=>vs=[]
 |d::ds,vs=> ∃ y ys,vs=y::ys/\d.one=true/\a0p C d [y]/\a1m C ds ys
def a1y (C:Nat->List Value) (sz:Nat):List D->List Value->Prop
 |[],vs=>vs=[]
 |d::ds,vs=> ∃ v1 v2,vs=v1++v2/\v1.length=sz/\a0p C d v1/\a1y C sz ds v2
end
def a2z (C:Nat->List Value):D->Value->Prop
 | .agg l,x=> ∃ cs:Array Value,x= .agg cs/\a1m C l cs.toList
 |d,x=>a0p C d [x]
theorem a6f {α:Type} {a b:List α} (h:a <+:b) (n:Nat):a.drop n <+:b.drop n:=by
 obtain⟨t,rfl⟩:=h
 rw[List.drop_append]
 exact List.prefix_append _ _
theorem a2a {α:Type} {a b:List α} (h:a <+:b) {i:Nat} {x:α} (hx:a[i]? =some x):b[i]? =some x:=by
 obtain⟨t,rfl⟩:=h
 have hi:=(List.getElem?_eq_some_iff.1 hx).1
 rw[List.getElem?_append_left hi];exact hx
section mono
variable {C C':Nat->List Value}
mutual
theorem c1x (h:∀ b,C b <+:C' b):∀ (d:D) (vs:List Value),a0p C d vs->a0p C' d vs
 | .bool _,_,r=>r
 | .int _ _,_,r=>r
 | .str _,_,r=>r
 | .agg l,vs,r=>by simp only[a0p]at r⊢;exact a3f h l vs r
 | .sl l,vs,r=>by
   simp only[a0p]at r⊢
   obtain⟨a,cap,rfl,hc,r⟩:=r
   refine⟨a,cap,rfl,hc,r.imp id ?_⟩
   rintro⟨b,off,sz,us,h1,h2,h3,h4⟩
   exact⟨b,off,sz,us,h1,h2,h3.trans (a6f (h b) off),a4h h sz l us h4⟩
theorem a3f (h:∀ b,C b <+:C' b):∀ (l:List D) (vs:List Value),a1m C l vs->a1m C' l vs
 |[],_,r=>r
 |d::ds,vs,r=>by
  simp only[a1m]at r⊢
  obtain⟨y,ys,rfl,h1,h2,h3⟩:=r
  exact⟨y,ys,rfl,h1,c1x h d [y] h2,a3f h ds ys h3⟩
theorem a4h (h:∀ b,C b <+:C' b) (sz:Nat):∀ (l:List D) (vs:List Value),a1y C sz l vs->a1y C' sz l vs
 |[],_,r=>r
 |d::ds,vs,r=>by
  simp only[a1y]at r⊢
  obtain⟨v1,v2,rfl,h1,h2,h3⟩:=r
  exact⟨v1,v2,rfl,h1,c1x h d v1 h2,a4h h sz ds v2 h3⟩
end
theorem c6c (h:∀ b,C b <+:C' b) {d:D} {x:Value} (r:a2z C d x):a2z C' d x:=by
 cases d with
 |agg l=>obtain⟨cs,rfl,r⟩:=r;exact⟨cs,rfl,a3f h _ _ r⟩
 |_=>exact c1x h _ _ r
end mono
section facts
variable {C:Nat->List Value}
theorem b0g:∀ {l:List D} {vs:List Value},a1m C l vs->vs.length=l.length
 |[],vs,r=>by simp only[a1m]at r;subst r;rfl
 |d::ds,vs,r=>by
  simp only[a1m]at r
  obtain⟨y,ys,rfl,_,_,h3⟩:=r
  simp[b0g h3]
theorem a6y {d:D} {vs:List Value} (r:a0p C d vs):vs.length=d.cells.length:=by
 cases d with
 |bool b=>simp only[a0p]at r;subst r;rfl
 |int k n=>simp only[a0p]at r;subst r;rfl
 |str s=>simp only[a0p]at r;subst r;rfl
 |agg l=>simp only[a0p]at r;exact b0g r
 |sl l=>simp only[a0p]at r;obtain⟨a,cap,rfl,_⟩:=r;rfl
theorem c5n {d:D} {y:Value} (hd:d.one=true) (r:a0p C d [y]):y.oneCell'=true:=by
 cases d with
 |bool b=>simp only[a0p]at r;cases r;rfl
 |int k n=>simp only[a0p]at r;cases r;rfl
 |str s=>simp only[a0p]at r;cases r;rfl
 |agg l=>cases hd
 |sl l=>simp only[a0p]at r;obtain⟨a,cap,h,_⟩:=r;cases h;rfl
theorem d4h:∀ {l:List D} {vs:List Value},a1m C l vs->∀ v∈vs,v.oneCell'=true
 |[],vs,r,v,hv=>by simp only[a1m]at r;subst r;cases hv
 |d::ds,vs,r,v,hv=>by
  simp only[a1m]at r
  obtain⟨y,ys,rfl,h1,h2,h3⟩:=r
  cases hv with
  |head=>exact c5n h1 h2
  |tail _ hm=>exact d4h h3 v hm
theorem e3u {d:D} {vs:List Value} (r:a0p C d vs):∀ v∈vs,v.oneCell'=true:=by
 cases d with
 |agg l=>simp only[a0p]at r;exact d4h r
 |_=>
  intro v hv
  have hl:=a6y r
  simp only[D.cells,List.length_cons,List.length_nil]at hl
  obtain⟨y,rfl⟩:=List.length_eq_one_iff.1 hl
  simp only[List.mem_singleton]at hv
  subst hv
  exact c5n rfl r
theorem a3j {sz:Nat}:∀ {l:List D} {vs:List Value},a1y C sz l vs->vs.length=l.length*sz
 |[],vs,r=>by simp only[a1y]at r;subst r;simp
 |d::ds,vs,r=>by
  simp only[a1y]at r
  obtain⟨v1,v2,rfl,h1,_,h3⟩:=r
  simp[a3j h3,h1,Nat.add_mul,Nat.add_comm]
theorem c7u {sz:Nat}:∀ {l:List D} {vs:List Value},a1y C sz l vs->∀ v∈vs,v.oneCell'=true
 |[],vs,r,v,hv=>by simp only[a1y]at r;subst r;cases hv
 |d::ds,vs,r,v,hv=>by
  simp only[a1y]at r
  obtain⟨v1,v2,rfl,h1,h2,h3⟩:=r
  rcases List.mem_append.1 hv with hv|hv
  ·exact e3u h2 v hv
  ·exact c7u h3 v hv
theorem b4q {sz:Nat}:∀ {l l':List D} {vs vs':List Value},a1y C sz l vs->a1y C sz l' vs'->a1y C sz (l++l') (vs++vs')
 |[],l',vs,vs',r,r'=>by simp only[a1y]at r;subst r;exact r'
 |d::ds,l',vs,vs',r,r'=>by
  simp only[a1y]at r
  obtain⟨v1,v2,rfl,h1,h2,h3⟩:=r
  simp only[List.cons_append,a1y]
  exact⟨v1,v2++vs',by simp,h1,h2,b4q h3 r'⟩
theorem b3t {sz:Nat}:∀ {l:List D} {vs:List Value} {i:Nat} {d:D},a1y C sz l vs->l[i]? =some d->a0p C d ((vs.drop (i*sz)).take sz)
 |[],vs,i,d,r,h=>by simp at h
 |d::ds,vs,0,d',r,h=>by
  simp only[a1y]at r
  obtain⟨v1,v2,rfl,h1,h2,h3⟩:=r
  simp only[List.getElem?_cons_zero,Option.some.injEq]at h
  subst h
  simpa [<-h1] using h2
 |d::ds,vs,i+1,d',r,h=>by
  simp only[a1y]at r
  obtain⟨v1,v2,rfl,h1,h2,h3⟩:=r
  simp only[List.getElem?_cons_succ]at h
  have:=b3t h3 h
  rw[Nat.add_mul,Nat.one_mul,Nat.add_comm,<-h1,List.drop_length_add_append,h1]
  exact this
theorem c8k {sz:Nat}:∀ {l:List D} {vs:List Value} (k:Nat),a1y C sz l vs->a1y C sz (l.take k) (vs.take (k*sz))
 |[],vs,k,r=>by simp only[a1y]at r;subst r;simp[a1y]
 |d::ds,vs,0,r=>by simp[a1y]
 |d::ds,vs,k+1,r=>by
  simp only[a1y]at r
  obtain⟨v1,v2,rfl,h1,h2,h3⟩:=r
  simp only[List.take_succ_cons,a1y]
  refine⟨v1,v2.take (k*sz),?_,h1,h2,c8k k h3⟩
  rw[Nat.add_mul,Nat.one_mul,Nat.add_comm,<-h1,List.take_length_add_append]
theorem c7l {sz:Nat}:∀ {l:List D} {vs:List Value} (k:Nat),a1y C sz l vs->a1y C sz (l.drop k) (vs.drop (k*sz))
 |[],vs,k,r=>by simp only[a1y]at r;subst r;simp[a1y]
 |d::ds,vs,0,r=>by simpa using r
 |d::ds,vs,k+1,r=>by
  simp only[a1y]at r
  obtain⟨v1,v2,rfl,h1,h2,h3⟩:=r
  simp only[List.drop_succ_cons]
  rw[Nat.add_mul,Nat.one_mul,Nat.add_comm,<-h1,List.drop_length_add_append,h1]
  exact c7l k h3
theorem c8n:∀ {l:List D} {vs:List Value} (k:Nat),a1m C l vs->a1m C (l.take k) (vs.take k)
 |[],vs,k,r=>by simp only[a1m]at r;subst r;simp[a1m]
 |d::ds,vs,0,r=>by simp[a1m]
 |d::ds,vs,k+1,r=>by
  simp only[a1m]at r
  obtain⟨y,ys,rfl,h1,h2,h3⟩:=r
  simp only[List.take_succ_cons,a1m]
  exact⟨y,ys.take k,rfl,h1,h2,c8n k h3⟩
theorem c8l:∀ {l:List D} {vs:List Value} (k:Nat),a1m C l vs->a1m C (l.drop k) (vs.drop k)
 |[],vs,k,r=>by simp only[a1m]at r;subst r;simp[a1m]
 |d::ds,vs,0,r=>by simpa using r
 |d::ds,vs,k+1,r=>by
  simp only[a1m]at r
  obtain⟨y,ys,rfl,h1,h2,h3⟩:=r
  simp only[List.drop_succ_cons]
  exact c8l k h3
theorem e0w:∀ {l:List D} {vs:List Value},a1m C l vs->a1y C 1 l vs
 |[],vs,r=>r
 |d::ds,vs,r=>by
  simp only[a1m]at r
  obtain⟨y,ys,rfl,h1,h2,h3⟩:=r
  simp only[a1y]
  exact⟨[y],ys,rfl,rfl,h2,e0w h3⟩
theorem e2y {d:D} {x:Value} (r:a2z C d x):a0p C d x.cells.toList:=by
 cases d with
 |agg l=>obtain⟨cs,rfl,r⟩:=r;simpa only[a0p,Value.cells] using r
 |bool b=>simp only[a2z,a0p]at r;cases r;simp[a0p,Value.cells]
 |int k n=>simp only[a2z,a0p]at r;cases r;simp[a0p,Value.cells]
 |str s=>simp only[a2z,a0p]at r;cases r;simp[a0p,Value.cells]
 |sl l=>simp only[a2z]at r;have:=r;simp only[a0p]at r;obtain⟨a,cap,h,_⟩:=r;cases h;exact this
theorem d5n {d:D} {y:Value} (hd:d.one=true) (r:a0p C d [y]):a2z C d y:=by
 cases d with
 |agg l=>cases hd
 |_=>exact r
theorem b7d {d:D} {vs:List Value} (r:a0p C d vs):a1m C d.cells vs:=by
 cases d with
 |agg l=>simpa only[D.cells,a0p] using r
 |bool b=>simp only[D.cells,a1m];simp only[a0p]at r;subst r;exact⟨_,_,rfl,rfl,rfl,rfl⟩
 |int k n=>simp only[D.cells,a1m];simp only[a0p]at r;subst r;exact⟨_,_,rfl,rfl,rfl,rfl⟩
 |str s=>simp only[D.cells,a1m];simp only[a0p]at r;subst r;exact⟨_,_,rfl,rfl,rfl,rfl⟩
 |sl l=>
  simp only[D.cells,a1m]
  have r':=r
  simp only[a0p]at r
  obtain⟨a,cap,rfl,_⟩:=r
  exact⟨_,_,rfl,rfl,r',rfl⟩
end facts
mutual
/-- A value of the model that a value of the machine stands for. -/
def Rep (g:Gh) (H:Hp):V->Value->Prop
 | .d x,v=>a2z g.C x v
 | .agg l,v=> ∃ cs:Array Value,v= .agg cs/\a1o g H l cs.toList
 | .tup l,v=> ∃ cs:Array Value,v= .tuple cs/\a0t g H l cs.toList
 | .nils,v=>v= .slice none 0 0
 | .row id len,v=> ∃ a cap sz l,v= .slice a len cap/\H[id]? =some (.row sz l)/\len<=l.length/\(len=l.length->(len=0/\a=none/\cap=0)\/∃ b,g.J id=some (b,cap)/\a=some ⟨b,0,none⟩)
 | .arr id off len,v=>(∃ o,H[id]? =some o/\∀ sz l,o≠ .row sz l)/\∃ b c cap,g.J id=some (b,c)/\v= .slice (some ⟨b,off,none⟩) len cap/\len<=cap
 | .ptr id off,v=>(∃ o,H[id]? =some o/\∀ sz l,o≠ .row sz l)/\∃ b c,g.J id=some (b,c)/\v= .pointer (some ⟨b,off,none⟩)
 | .mp id,v=>(∃ o,H[id]? =some o/\∀ sz l,o≠ .row sz l)/\∃ b c,g.J id=some (b,c)/\v= .map (some b)
 | .ro l off,v=> ∃ b o vs,v= .pointer (some ⟨b,o+off,none⟩)/\vs <+:(g.C b).drop o/\a1m g.C l vs
 | .fn f c,v=> ∃ cs:Array Value,v= .func (.func f) #[] cs/\a0t g H c cs.toList
 | .fm f c,v=> ∃ cs:Array Value,v= .func (.func f) cs #[]/\a0t g H c cs.toList
 | .nul,v=>v= .pointer none
 | .nof,v=>v= .nilFunc
 | .ifc b,v=>(b=true/\v= .nilIface)\/(b=false/\∃ t y,v= .iface t y)
 | .raw y,v=>v=y
 | .nmp,v=>v= .map none
 | .nile,v=> ∃ a:Option Addr,v= .slice a 0 0/\∀ q,a=some q->q.spot=none
 | .undef,_=>True
/-- Cells. -/
def a1o (g:Gh) (H:Hp):List V->List Value->Prop
 |[],vs=>vs=[]
 |x::xs,vs=> ∃ y ys,vs=y::ys/\x.one=true/\Rep g H x y/\a1o g H xs ys
/-- Components. -/
def a0t (g:Gh) (H:Hp):List V->List Value->Prop
 |[],vs=>vs=[]
 |x::xs,vs=> ∃ y ys,vs=y::ys/\Rep g H x y/\a0t g H xs ys
end
structure Keep (n:Nat) (g:Gh) (H:Hp) (g':Gh) (H':Hp):Prop where
 C:∀ b,g.C b <+:g'.C b
 obj:∀ i o,i < n->H[i]? =some o->(∀ sz l,o≠ .row sz l)->g'.J i=g.J i/\∃ o',H'[i]? =some o'/\∀ sz l,o'≠ .row sz l
 row:∀ i sz l,i < n->H[i]? =some (.row sz l)->∃ l',H'[i]? =some (.row sz l')/\l <+:l'/\(l'.length=l.length->g'.J i=g.J i)
theorem Keep.refl (n:Nat) (g:Gh) (H:Hp):Keep n g H g H:=
 ⟨fun _=>List.prefix_refl _,fun _ o _ ho h=>⟨rfl,o,ho,h⟩,fun _ _ l _ ho=>⟨l,ho,List.prefix_refl _,fun _=>rfl⟩⟩
theorem Keep.trans {n m:Nat} {g g1 g2:Gh} {H H1 H2:Hp} (h:Keep n g H g1 H1) (k:Keep m g1 H1 g2 H2) (hm:n<=m):Keep n g H g2 H2:=by
 refine⟨fun b=>(h.C b).trans (k.C b),fun i o hi ho hr=>?_,fun i sz l hi ho=>?_⟩
 ·obtain⟨e1,o',h1,h2⟩:=h.obj i o hi ho hr
  obtain⟨e2,o'',h3,h4⟩:=k.obj i o' om h1 h2
  exact⟨e2.trans e1,o'',h3,h4⟩
 ·obtain⟨l',h1,h2,h3⟩:=h.row i sz l hi ho
  obtain⟨l'',h4,h5,h6⟩:=k.row i sz l' om h1
  refine⟨l'',h4,h2.trans h5,fun he=>?_⟩
  have a:=h2.length_le
  have b:=h5.length_le
  rw[h6 om,h3 om]
structure c2s (n:Nat) (g:Gh) (H:Hp) (g':Gh) (H':Hp):Prop where
 C:∀ b,g.C b <+:g'.C b
 obj:∀ i o,i < n->H[i]? =some o->(∀ sz l,o≠ .row sz l)->(∀ p,g.J i=some p->g'.J i=some p)/\∃ o',H'[i]? =some o'/\∀ sz l,o'≠ .row sz l
 row:∀ i sz l,i < n->H[i]? =some (.row sz l)->∃ l',H'[i]? =some (.row sz l')/\l <+:l'/\(l'.length=l.length->∀ p,g.J i=some p->g'.J i=some p)
theorem Keep.w {n:Nat} {g g':Gh} {H H':Hp} (k:Keep n g H g' H'):c2s n g H g' H':=
 ⟨k.C,fun i o hi ho hr=>⟨fun _ hp=>(k.obj i o hi ho hr).1.trans hp,(k.obj i o hi ho hr).2⟩,fun i sz l hi ho=>by
   obtain⟨l',h1,h2,h3⟩:=k.row i sz l hi ho
   exact⟨l',h1,h2,fun he _ hp=>(h3 he).trans hp⟩⟩
section
variable {n:Nat} {g g':Gh} {H H':Hp}
mutual
theorem a2m (k:c2s n g H g' H'):∀ (v:V) (x:Value),v.und n=true->Rep g H v x->Rep g' H' v x
 | .d d,x,_,r=>by simp only[Rep]at r⊢;exact c6c k.C r
 | .agg l,x,u,r=>by
   simp only[Rep]at r⊢
   obtain⟨cs,rfl,r⟩:=r
   exact⟨cs,rfl,a6n k l _ (by simpa only[V.und] using u) r⟩
 | .tup l,x,u,r=>by
   simp only[Rep]at r⊢
   obtain⟨cs,rfl,r⟩:=r
   exact⟨cs,rfl,a4c k l _ (by simpa only[V.und] using u) r⟩
 | .nils,x,_,r=>by simpa only[Rep] using r
 | .row id len,x,u,r=>by
   simp only[Rep]at r⊢
   obtain⟨a,cap,sz,l,rfl,ho,r1,r2⟩:=r
   simp only[V.und,decide_eq_true_eq]at u
   obtain⟨l',h1,h2,h3⟩:=k.row id sz l u ho
   have hp:=h2.length_le
   refine⟨a,cap,sz,l',rfl,h1,om,fun he=>?_⟩
   have e:=h3 om
   rcases r2 om with q|⟨b,q1,q2⟩
   ·exact .inl q
   ·exact .inr ⟨b,e _ q1,q2⟩
 | .arr id off len,x,u,r=>by
   simp only[Rep]at r⊢
   obtain⟨⟨o,ho,hr⟩,b,c,cap,h1,rfl,hlc⟩:=r
   simp only[V.und,decide_eq_true_eq]at u
   obtain⟨e,q⟩:=k.obj id o u ho hr
   exact⟨q,b,c,cap,e _ h1,rfl,hlc⟩
 | .ptr id off,x,u,r=>by
   simp only[Rep]at r⊢
   obtain⟨⟨o,ho,hr⟩,b,c,h1,rfl⟩:=r
   simp only[V.und,decide_eq_true_eq]at u
   obtain⟨e,q⟩:=k.obj id o u ho hr
   exact⟨q,b,c,e _ h1,rfl⟩
 | .mp id,x,u,r=>by
   simp only[Rep]at r⊢
   obtain⟨⟨o,ho,hr⟩,b,c,h1,rfl⟩:=r
   simp only[V.und,decide_eq_true_eq]at u
   obtain⟨e,q⟩:=k.obj id o u ho hr
   exact⟨q,b,c,e _ h1,rfl⟩
 | .ro l off,x,_,r=>by
   simp only[Rep]at r⊢
   obtain⟨b,o,vs,rfl,h1,h2⟩:=r
   exact⟨b,o,vs,rfl,h1.trans (a6f (k.C b) o),a3f k.C _ _ h2⟩
 | .fn f c,x,u,r=>by
   simp only[Rep]at r⊢
   obtain⟨cs,rfl,r⟩:=r
   exact⟨cs,rfl,a4c k c _ (by simpa only[V.und] using u) r⟩
 | .fm f c,x,u,r=>by
   simp only[Rep]at r⊢
   obtain⟨cs,rfl,r⟩:=r
   exact⟨cs,rfl,a4c k c _ (by simpa only[V.und] using u) r⟩
 | .nul,x,_,r=>by simpa only[Rep] using r
 | .nof,x,_,r=>by simpa only[Rep] using r
 | .ifc _,x,_,r=>by simpa only[Rep] using r
 | .raw _,x,_,r=>by simpa only[Rep] using r
 | .nmp,x,_,r=>by simpa only[Rep] using r
 | .nile,x,_,r=>by simpa only[Rep] using r
 | .undef,x,_,r=>by simp only[Rep]
theorem a6n (k:c2s n g H g' H'):∀ (l:List V) (vs:List Value),a0w n l=true->a1o g H l vs->a1o g' H' l vs
 |[],_,_,r=>r
 |v::l,vs,u,r=>by
  simp only[a1o]at r⊢
  simp only[a0w,Bool.and_eq_true]at u
  obtain⟨y,ys,rfl,h1,h2,h3⟩:=r
  exact⟨y,ys,rfl,h1,a2m k v y u.1 h2,a6n k l ys u.2 h3⟩
theorem a4c (k:c2s n g H g' H'):∀ (l:List V) (vs:List Value),a0w n l=true->a0t g H l vs->a0t g' H' l vs
 |[],_,_,r=>r
 |v::l,vs,u,r=>by
  simp only[a0t]at r⊢
  simp only[a0w,Bool.and_eq_true]at u
  obtain⟨y,ys,rfl,h2,h3⟩:=r
  exact⟨y,ys,rfl,a2m k v y u.1 h2,a4c k l ys u.2 h3⟩
end
end
end Go.Vm
namespace Go.Vm
inductive a1j where
 |code (f:VFn)
 |prim (F:List V->Hp->Option (V×Hp))
structure Pg extends Cx where
 tbl:Nat->Option a1j
abbrev Lp:=List Nat->a0e->St->Option (Ex×St)
def sq (r:Option (Ex×St)) (k:St->Option (Ex×St)):Option (Ex×St):=
 match r with
 |some (.nrm,s)=>k s
 |some (.exit i,s)=>some (.exit i,s)
 |some (.ret,s)=>some (.ret,s)
 |none=>none
structure d8g (cx:Cx) (orc:Orc) (m:Nat) (ops:List a0b) (s:St) (d:Nat) (od:a0b) (τ:Nat->St) (val:Nat->V):Prop where
 lt:d < m
 le:m<=ops.length
 odx:ops[d]? =some od
 zero:τ 0=s
 step:∀ i o,i < m->ops[i]? =some o->a0f cx orc o (τ i)=some (τ (i+1))/\(τ (i+1)).e=a7y o.dst (val i) (τ i).e
 quiet:∀ i o,i < m->ops[i]? =some o->i≠d->(τ (i+1)).h=(τ i).h
 ahead:∀ i o,i < d->ops[i]? =some o->a0f cx orc o ⟨(τ i).e,(τ (d+1)).h,s.b⟩=some ⟨(τ (i+1)).e,(τ (d+1)).h,s.b⟩
 behind:∀ i o,d < i->i < m->ops[i]? =some o->(∃ t,od.dst=some t/\t∈o.names)\/a0f cx orc o ⟨(τ i).e,s.h,s.b⟩=some ⟨(τ (i+1)).e,s.h,s.b⟩
structure e1m (cx:Cx) (orc:Orc) (m:Nat) (ops:List a0b) (s:St) (d a:Nat) (ε:Nat->Env) (val:Nat->V) (Hs:Bool->Bool->Hp):Prop where
 ld:d < m
 la:a < m
 ne:d≠a
 le:m<=ops.length
 zero:ε 0=s.e
 h0:Hs false false=s.h
 env:∀ i o,i < m->ops[i]? =some o->ε (i+1)=a7y o.dst (val i) (ε i)
 run:∀ i o x y,i < m->ops[i]? =some o->(i=d->x=false)->(i=a->y=false)->a0f cx orc o ⟨ε i,Hs x y,s.b⟩=some ⟨ε (i+1),Hs (x||decide (i=d)) (y||decide (i=a)),s.b⟩
def b7j:VOp->Bool
 | .mv _| .pick .. | .build .. | .ld .. | .bin .. | .un .. | .conv .. | .fld .. | .fadr .. | .ext .. | .len .. | .mkfn .. | .mkfm .. | .eqa .. | .eqb .. | .convs .. | .isnil .. | .bslice .. | .idx .. | .iadra .. | .iadr .. | .slcs .. | .slc .. | .mget .. | .mm .. | .nilck .. =>true
 |_=>false
theorem d7m {cx:Cx} {orc:Orc} {b:Nat} {e:Env} {H:Hp} {o:VOp} {v:V} {H':Hp} (hp:b7j o=true) (h:a0q cx orc b e H o=some (v,H')):H'=H:=by
 cases o<;>first|(cases hp;done)|skip
 case len str x=>
  cases str<;>simp only[a0q]at h
  ·cases hl:c9n (evO cx e x)with
   |none=>rw[hl]at h;cases h
   |some n=>rw[hl]at h;cases h;rfl
  ·split at h
   ·cases h;rfl
   ·rename_i hh;cases hh
   ·cases h
 all_goals
  simp only[a0q]at h
  repeat' split at h
  all_goals first
    |(cases h;done)
    |(simp only[Option.some.injEq,Prod.mk.injEq]at h;exact h.2.symm)
    |(simp only[Option.map_eq_some_iff,Prod.mk.injEq]at h;obtain⟨_,_,_,h⟩:=h;exact h.symm)
def d3s (a:Nat) (ops:List a0b):Bool:=((ops.take a).all fun o=>b7j o.op) && match ops.drop a with
  |⟨some k1,.zbox _,none⟩::⟨some k2,.zbox _,none⟩::⟨none,.st _ (.t p) (.t v),none⟩::_=>p==k1 && k1 !=k2 && v !=k1 && v !=k2
  |_=>false
def c8r (cx:Cx) (orc:Orc) (m:Nat) (ops:List a0b) (s:St):Prop:=(∃ d od τ val,d8g cx orc m ops s d od τ val)\/(∃ d a ε val Hs,e1m cx orc m ops s d a ε val Hs)\/∃ a,m=a+3/\d3s a ops=true/\∃ r,a2c cx orc (a+2) ops s=some r
open Classical in
noncomputable def b1e (cx:Cx) (orc:Orc) (m:Nat) (ops:List a0b) (s:St):Option St:=
 if(∃ r,a2c cx orc m ops s=some r)\/c8r cx orc m ops s then a0s cx orc ops s else none
theorem a8r {cx:Cx} {orc:Orc}:∀ {m:Nat} {ops:List a0b} {s r:St},a2c cx orc m ops s=some r->a0s cx orc ops s=some r
 |0,[],_,_,h=>h
 |_+1,[],_,_,h=>h
 |0,_::_,_,_,h=>h
 |m+1,o::r,s,q,h=>by
  simp only[a2c]at h
  simp only[a0s]
  cases hx:a0f cx orc o s with
  |none=>rw[hx]at h;cases h
  |some s1=>
   rw[hx]at h
   simp only[Option.bind_some]at h⊢
   split at h
   ·exact a8r h
   ·cases h
theorem f6i {cx:Cx} {orc:Orc} {m:Nat} {ops:List a0b} {s r:St} (h:a2c cx orc m ops s=some r):b1e cx orc m ops s=some r:=by
 unfold b1e;rw[if_pos (.inl ⟨r,h⟩)];exact a8r h
theorem a3e {cx:Cx} {orc:Orc} {m:Nat} {ops:List a0b} {s r:St}:b1e cx orc m ops s=some r↔a0s cx orc ops s=some r/\((∃ r,a2c cx orc m ops s=some r)\/c8r cx orc m ops s):=by
 unfold b1e
 constructor
 ·intro h
  split at h
  ·rename_i c;exact⟨h,c⟩
  ·cases h
 ·rintro⟨h,c⟩;rw[if_pos c];exact h
noncomputable def evC (cx:Cx) (orc:Orc) (lp:Lp):a0e->St->Option (Ex×St)
 | .skip,s=>some (.nrm,s)
 | .reg ops,s=>(a0s cx orc ops s).map fun s=>(.nrm,s)
 | .draw m ops,s=>(b1e cx orc m ops s).map fun s=>(.nrm,s)
 | .seq a b,s=>sq (evC cx orc lp a s) fun s'=>evC cx orc lp b s'
 | .cond c a b,s=>match evO cx s.e c with
   | .d (.bool t)=>if t then evC cx orc lp a s else evC cx orc lp b s
   |_=>none
 | .block id b,s=>match evC cx orc lp b s with
   |some (.exit i,s')=>if i=id then some (.nrm,s') else some (.exit i,s')
   |r=>r
 | .scope b,s=>evC cx orc lp b s
 | .loop ks b,s=>match evC cx orc lp b ⟨a2d ks s.e,s.h,s.h.length⟩with
   |some (.nrm,s')=>lp ks b ⟨cut s.h.length (a2d ks s'.e),s'.h.take s.h.length,s.b⟩
   |some (x,s')=>some (x,⟨s'.e,s'.h,s.b⟩)
   |none=>none
 | .exit i,s=>some (.exit i,s)
 | .ret,s=>some (.ret,s)
 | .newrow sz t,s=>match a1k s.e t with
   | .nils=>if 0 < sz then some (.nrm,⟨(t,.row s.h.length 0)::s.e,s.h++[.row sz []],s.b⟩) else none
   |_=>none
 | .bindrow sz t off,s=>match a1k s.e t with
   | .ptr id o=>match s.h[id]? with
     |some (.box c)=>match c[o+off]? with
      |some .nils=>if s.b<=id/\0 < sz then some (.nrm,⟨s.e,s.h.set id (.box (c.set (o+off) (.row s.h.length 0)))++[.row sz []],s.b⟩) else none
      |_=>none
     |_=>none
   |_=>none
 | .mkrow sz,s=>if 0 < sz then some (.nrm,⟨s.e,s.h++[.row sz []],s.b⟩) else none
 | .bindto t off k,s=>match a1k s.e t with
   | .ptr id o=>match s.h[id]? with
     |some (.box c)=>match c[o+off]?,s.h[id - k]? with
      |some .nils,some (.row _ [])=>if 0 < k/\k<=id/\s.b<=id - k then some (.nrm,⟨s.e,s.h.set id (.box (c.set (o+off) (.row (id - k) 0))),s.b⟩) else none
      |_,_=>none
     |_=>none
   |_=>none
 | .freeze t,s=>match a1k s.e t with
   | .arr id _ _=>match s.h[id]? with
     |some (.box c)=>match b6m c with
      |some ds=>some (.nrm,⟨s.e,s.h.set id (.frz ds),s.b⟩)
      |none=>none
     |_=>none
   | .row id len=>match s.h[id]? with
     |some (.row _ l)=>if l.length=len then some (.nrm,⟨(t,.d (.sl l))::s.e,s.h,s.b⟩) else none
     |_=>none
   |_=>none
def f1u (e:Env) (h:Hp):d1x->Option V
 | .tmp t=>some (a1k e t)
 | .cell t n=>b7p h n (a1k e t)
def a9u (e:Env) (h:Hp):List d1x->Option (List V)
 |[]=>some []
 |r::rs=>match f1u e h r,a9u e h rs with|some v,some vs=>some (v::vs)|_,_=>none
def oneOf:List V->V
 |[v]=>v
 |vs=> .tup vs
def a1a (args:List V):Env:=(List.range args.length).map fun i=>(i,args.getD i .undef)
def leave (vf:VFn) (h0:Nat) (s:St):Option (V×Hp):=
 match a9u s.e s.h vf.res with
 |none=>none
 |some vs=>
  if vf.keep then some (oneOf vs,s.h)
  else let ds:=vs.map (toArg s.h);if a0w h0 ds then some (oneOf ds,s.h.take h0) else none
def bare (t:Bool) (h:Hp) (k:Hp->Option (V×Hp)):Option (V×Hp):=
 match t with
 |true=>(k []).map fun r=>(r.1,h)
 |false=>k h
noncomputable def c1y (pg:Pg) (orc:Orc) (lp:Lp) (f:Nat) (args:List V) (h:Hp):Option (V×Hp):=
 match pg.tbl f with
 |none=>none
 |some (.prim F)=>F args h
 |some (.code vf)=>if args.length=vf.np then
     bare (a0w 0 args && !vf.keep) h fun h=>match evC pg.toCx orc lp vf.body ⟨a1a args,h,h.length⟩with
     |some (.nrm,s)|some (.ret,s)=>leave vf h.length s
     |_=>none
   else none
noncomputable def atN (pg:Pg):Nat->Orc×Lp
 |0=>(fun _ _ _=>none,fun _ _ _=>none)
 |n+1=>(c1y pg (atN pg n).1 (atN pg n).2,fun ks b s=>evC pg.toCx (atN pg n).1 (atN pg n).2 (.loop ks b) s)
noncomputable def b0v (pg:Pg) (n:Nat):Orc:=(atN pg n).1
noncomputable def c2n (pg:Pg) (n:Nat):Lp:=(atN pg n).2
theorem a9e (pg:Pg) (f:Nat) (a:List V) (h:Hp):b0v pg 0 f a h=none:=rfl
theorem a5m (pg:Pg) (n f:Nat) (a:List V) (h:Hp):b0v pg (n+1) f a h=c1y pg (b0v pg n) (c2n pg n) f a h:=rfl
theorem b1k (pg:Pg) (k:List Nat) (b:a0e) (s:St):c2n pg 0 k b s=none:=rfl
theorem a9m (pg:Pg) (n:Nat) (k:List Nat) (b:a0e) (s:St):c2n pg (n+1) k b s=evC pg.toCx (b0v pg n) (c2n pg n) (.loop k b) s:=rfl
end Go.Vm
namespace Go.Vm
def OLe (o o':Orc):Prop:=∀ f a h r,o f a h=some r->o' f a h=some r
def LLe (l l':Lp):Prop:=∀ k b s r,l k b s=some r->l' k b s=some r
theorem d2n {cx:Cx} {o o':Orc} (ho:OLe o o') {b:Nat} {e:Env} {H:Hp} {op:VOp} {r:V×Hp} (h:a0q cx o b e H op=some r):a0q cx o' b e H op=some r:=by
 cases op with
 |call f args=>exact ho _ _ _ _ h
 |callv f args=>
  simp only[a0q]at h⊢
  split at h
  ·exact ho _ _ _ _ h
  ·exact ho _ _ _ _ h
  ·cases h
 |_=>exact h
theorem f8b {d:Option Nat} {e:Env} {b:Nat} {x y:Option (V×Hp)} {r:St} (h:∀ q,x=some q->y=some q) (hr:lay d e b x=some r):lay d e b y=some r:=by
 cases x with
 |none=>cases hr
 |some q=>rw[h q rfl];exact hr
theorem f8e {v:V} {b:Bool} {d:Option Nat} {s:St} {x y:Option (V×Hp)} {r:St} (h:∀ q,x=some q->y=some q) (hr:grd v b d s x=some r):grd v b d s y=some r:=by
 unfold grd at hr⊢
 split at hr
 ·split at hr
  ·rename_i hb;exact(if_pos hb).trans (f8b h hr)
  ·rename_i hb;exact(if_neg hb).trans hr
 ·exact hr
 ·cases hr
theorem a1c {cx:Cx} {o o':Orc} (ho:OLe o o') {x:a0b} {s r:St} (h:a0f cx o x s=some r):a0f cx o' x s=some r:=by
 unfold a0f at h⊢
 split at h
 ·exact f8b (fun q hq=>d2n ho hq) h
 ·exact f8e (fun q hq=>d2n ho hq) h
theorem a6l {cx:Cx} {o o':Orc} (ho:OLe o o'):∀ {ops:List a0b} {s r:St},a0s cx o ops s=some r->a0s cx o' ops s=some r
 |[],_,_,h=>h
 |x::xs,s,r,h=>by
  simp only[a0s]at h⊢
  cases hx:a0f cx o x s with
  |none=>rw[hx]at h;cases h
  |some q=>rw[hx]at h;rw[a1c ho hx];exact a6l ho h
theorem a8t {cx:Cx} {o o':Orc} (ho:OLe o o'):∀ {m:Nat} {ops:List a0b} {s r:St},a2c cx o m ops s=some r->a2c cx o' m ops s=some r
 |0,[],_,_,h=>h
 |_+1,[],_,_,h=>h
 |0,x::xs,s,r,h=>a6l ho h
 |m+1,x::xs,s,r,h=>by
  simp only[a2c]at h⊢
  cases hx:a0f cx o x s with
  |none=>rw[hx]at h;cases h
  |some q=>
   rw[hx]at h;rw[a1c ho hx]
   simp only[Option.bind_some]at h⊢
   split at h
   ·rename_i hg;rw[if_pos hg];exact a8t ho h
   ·cases h
theorem c7s {cx:Cx} {o o':Orc} (ho:OLe o o') {m:Nat} {ops:List a0b} {s:St} (h:c8r cx o m ops s):c8r cx o' m ops s:=by
 rcases h with⟨d,od,τ,val,D⟩|⟨d,a,ε,val,Hs,D⟩|⟨a,h1,h2,r,h3⟩
 rotate_left
 rotate_left
 ·exact .inr (.inr ⟨a,h1,h2,r,a8t ho h3⟩)
 rotate_left
 ·exact .inr (.inl ⟨d,a,ε,val,Hs,D.ld,D.la,D.ne,D.le,D.zero,D.h0,D.env,fun i q x y hi hq h1 h2=>a1c ho (D.run i q x y hi hq h1 h2)⟩)
 exact .inl ⟨d,od,τ,val,D.lt,D.le,D.odx,D.zero,fun i q hi hq=>⟨a1c ho (D.step i q hi hq).1,(D.step i q hi hq).2⟩,D.quiet,fun i q hi hq=>a1c ho (D.ahead i q hi hq),fun i q h1 h2 hq=>(D.behind i q h1 h2 hq).imp id (a1c ho)⟩
theorem e2s {cx:Cx} {o o':Orc} (ho:OLe o o') {m:Nat} {ops:List a0b} {s r:St} (h:b1e cx o m ops s=some r):b1e cx o' m ops s=some r:=by
 obtain⟨h1,h2⟩:=a3e.1 h
 refine a3e.2 ⟨a6l ho h1,?_⟩
 rcases h2 with⟨q,hq⟩|hD
 ·exact .inl ⟨q,a8t ho hq⟩
 ·exact .inr (c7s ho hD)
theorem a8b {cx:Cx} {o o':Orc} (ho:OLe o o') {l l':Lp} (hl:LLe l l'):∀ {c:a0e} {s:St} {r:Ex×St},evC cx o l c s=some r->evC cx o' l' c s=some r:=by
 intro c
 induction c with
 |skip=>intro s r h;exact h
 |reg ops=>
  intro s r h;simp only[evC]at h⊢
  cases hx:a0s cx o ops s with
  |none=>rw[hx]at h;cases h
  |some q=>rw[hx]at h;rw[a6l ho hx];exact h
 |draw m ops=>
  intro s r h;simp only[evC]at h⊢
  cases hx:b1e cx o m ops s with
  |none=>rw[hx]at h;cases h
  |some q=>rw[hx]at h;rw[e2s ho hx];exact h
 |seq a b iha ihb=>
  intro s r h;simp only[evC]at h⊢
  cases hx:evC cx o l a s with
  |none=>rw[hx]at h;cases h
  |some q=>
   obtain⟨x,s'⟩:=q
   rw[hx]at h;rw[iha hx]
   cases x<;>first|exact ihb h|exact h
 |cond c a b iha ihb=>
  intro s r h;simp only[evC]at h⊢
  split at h
  ·split at h
   ·rename_i hb;rw[if_pos hb];exact iha h
   ·rename_i hb;rw[if_neg hb];exact ihb h
  ·cases h
 |block id b ih=>
  intro s r h;simp only[evC]at h⊢
  cases hx:evC cx o l b s with
  |none=>rw[hx]at h;cases h
  |some q=>rw[hx]at h;rw[ih hx];exact h
 |scope b ih=>intro s r h;simp only[evC]at h⊢;exact ih h
 |loop k b ih=>
  intro s r h;simp only[evC]at h⊢
  cases hx:evC cx o l b ⟨a2d k s.e,s.h,s.h.length⟩with
  |none=>rw[hx]at h;cases h
  |some q=>
   obtain⟨x,s'⟩:=q
   rw[hx]at h;rw[ih hx]
   cases x<;>simp only at h⊢ <;>first|exact hl _ _ _ _ h|exact h
 |exit i=>intro s r h;exact h
 |ret=>intro s r h;exact h
 |newrow a b=>intro s r h;exact h
 |bindrow a b c=>intro s r h;exact h
 |mkrow a=>intro s r h;exact h
 |bindto a b c=>intro s r h;exact h
 |freeze a=>intro s r h;exact h
theorem d7b {t:Bool} {h:Hp} {k k':Hp->Option (V×Hp)} {r:V×Hp} (hk:∀ h r,k h=some r->k' h=some r) (hr:bare t h k=some r):bare t h k'=some r:=by
 cases t with
 |true=>
  simp only[bare]at hr⊢
  obtain⟨q,hq,rfl⟩:=Option.map_eq_some_iff.1 hr
  rw[hk _ _ hq];rfl
 |false=>exact hk _ _ hr
theorem d7t (pg:Pg):∀ n,OLe (b0v pg n) (b0v pg (n+1))/\LLe (c2n pg n) (c2n pg (n+1))
 |0=>⟨fun _ _ _ _ h=>(nomatch ((a9e pg _ _ _).symm.trans h)),fun _ _ _ _ h=>(nomatch ((b1k pg _ _ _).symm.trans h))⟩
 |n+1=>by
  obtain⟨h1,h2⟩:=d7t pg n
  refine⟨fun f a h r hr=>?_,fun k b s r hr=>?_⟩
  ·rw[a5m,c1y]at hr⊢
   split at hr
   ·cases hr
   ·exact hr
   ·rename_i vf ht
    split at hr
    ·rename_i hl;rw[if_pos hl]
     refine d7b (fun h r hr=>?_) hr
     cases hx:evC pg.toCx (b0v pg n) (c2n pg n) vf.body ⟨a1a a,h,h.length⟩with
     |none=>rw[hx]at hr;cases hr
     |some q=>rw[hx]at hr;rw[a8b h1 h2 hx];exact hr
    ·cases hr
  ·rw[a9m]at hr⊢;exact a8b h1 h2 hr
theorem a8k (pg:Pg) {n m:Nat} (h:n<=m):OLe (b0v pg n) (b0v pg m):=by
 induction m with
 |zero=>obtain rfl:n=0:=om
        exact fun _ _ _ _ h=>h
 |succ m ih=>
  by_cases hm:n=m+1
  ·subst hm;exact fun _ _ _ _ h=>h
  ·exact fun f a hh r hr=>(d7t pg m).1 _ _ _ _ (ih om _ _ _ _ hr)
theorem e3m (pg:Pg) {n m:Nat} (h:n<=m):LLe (c2n pg n) (c2n pg m):=by
 induction m with
 |zero=>obtain rfl:n=0:=om
        exact fun _ _ _ _ h=>h
 |succ m ih=>
  by_cases hm:n=m+1
  ·subst hm;exact fun _ _ _ _ h=>h
  ·exact fun f a hh r hr=>(d7t pg m).2 _ _ _ _ (ih om _ _ _ _ hr)
open Classical in
@[irreducible] noncomputable def evF (pg:Pg):Orc:=fun f a h=>if x:∃ r,∃ n,b0v pg n f a h=some r then some x.choose else none
open Classical in
@[irreducible] noncomputable def evL (pg:Pg):Lp:=fun k b s=>if x:∃ r,∃ n,c2n pg n k b s=some r then some x.choose else none
theorem a5t {pg:Pg} {f:Nat} {a:List V} {h:Hp} {r:V×Hp}:evF pg f a h=some r↔∃ n,b0v pg n f a h=some r:=by
 unfold evF
 constructor
 ·intro hx
  split at hx
  ·rename_i x;cases hx;exact x.choose_spec
  ·cases hx
 ·rintro⟨n,hn⟩
  have x:∃ r,∃ n,b0v pg n f a h=some r:=⟨r,n,hn⟩
  rw[dif_pos x]
  obtain⟨m,hm⟩:=x.choose_spec
  have e1:=a8k pg (Nat.le_max_left n m) _ _ _ _ hn
  have e2:=a8k pg (Nat.le_max_right n m) _ _ _ _ hm
  rw[e1]at e2;exact e2.symm
theorem c1v {pg:Pg} {k:List Nat} {b:a0e} {s:St} {r:Ex×St}:evL pg k b s=some r↔∃ n,c2n pg n k b s=some r:=by
 unfold evL
 constructor
 ·intro hx
  split at hx
  ·rename_i x;cases hx;exact x.choose_spec
  ·cases hx
 ·rintro⟨n,hn⟩
  have x:∃ r,∃ n,c2n pg n k b s=some r:=⟨r,n,hn⟩
  rw[dif_pos x]
  obtain⟨m,hm⟩:=x.choose_spec
  have e1:=e3m pg (Nat.le_max_left n m) _ _ _ _ hn
  have e2:=e3m pg (Nat.le_max_right n m) _ _ _ _ hm
  rw[e1]at e2;exact e2.symm
theorem e4y (pg:Pg) (n:Nat):OLe (b0v pg n) (evF pg):=fun _ _ _ _ h=>a5t.2 ⟨n,h⟩
theorem f7i (pg:Pg) (n:Nat):LLe (c2n pg n) (evL pg):=fun _ _ _ _ h=>c1v.2 ⟨n,h⟩
section fin
variable {pg:Pg}
theorem f4r {b:Nat} {e:Env} {H:Hp} {op:VOp} {r:V×Hp} (h:a0q pg.toCx (evF pg) b e H op=some r):∃ n,a0q pg.toCx (b0v pg n) b e H op=some r:=by
 cases op with
 |call f args=>exact a5t.1 h
 |callv f args=>
  simp only[a0q]at h⊢
  split at h
  ·exact a5t.1 h
  ·exact a5t.1 h
  ·cases h
 |_=>exact⟨0,h⟩
theorem a8m {x:a0b} {s r:St} (h:a0f pg.toCx (evF pg) x s=some r):∃ n,a0f pg.toCx (b0v pg n) x s=some r:=by
 unfold a0f at h⊢
 cases hx:a0q pg.toCx (evF pg) s.b s.e s.h x.op with
 |none=>
  rw[hx]at h
  refine⟨0,?_⟩
  split at h
  ·cases h
  ·exact f8e (fun q hq=>by cases hq) h
 |some q=>
  obtain⟨n,hn⟩:=f4r hx
  rw[hx]at h
  exact⟨n,by rw[hn];exact h⟩
theorem b8z:∀ {ops:List a0b} {s r:St},a0s pg.toCx (evF pg) ops s=some r->∃ n,a0s pg.toCx (b0v pg n) ops s=some r
 |[],_,_,h=>⟨0,h⟩
 |x::xs,s,r,h=>by
  simp only[a0s]at h
  cases hx:a0f pg.toCx (evF pg) x s with
  |none=>rw[hx]at h;cases h
  |some q=>
   rw[hx]at h
   obtain⟨n,hn⟩:=a8m hx
   obtain⟨m,hm⟩:=b8z (ops:=xs) h
   exact⟨max n m,by simp only[a0s];rw[a1c (a8k pg (Nat.le_max_left n m)) hn];exact a6l (a8k pg (Nat.le_max_right n m)) hm⟩
theorem c1g:∀ {k:Nat} {ops:List a0b} {s r:St},a2c pg.toCx (evF pg) k ops s=some r->∃ n,a2c pg.toCx (b0v pg n) k ops s=some r
 |0,[],_,_,h=>⟨0,h⟩
 |_+1,[],_,_,h=>⟨0,h⟩
 |0,x::xs,s,r,h=>b8z h
 |k+1,x::xs,s,r,h=>by
  simp only[a2c]at h
  cases hx:a0f pg.toCx (evF pg) x s with
  |none=>rw[hx]at h;cases h
  |some q=>
   rw[hx]at h
   obtain⟨n,hn⟩:=a8m hx
   simp only[Option.bind_some]at h
   split at h
   ·rename_i hg
    obtain⟨m,hm⟩:=c1g (ops:=xs) h
    refine⟨max n m,?_⟩
    simp only[a2c];rw[a1c (a8k pg (Nat.le_max_left n m)) hn]
    simp only[Option.bind_some,if_pos hg]
    exact a8t (a8k pg (Nat.le_max_right n m)) hm
   ·cases h
theorem d8a {p:Nat->Nat->Prop} (hp:∀ i n n',n<=n'->p i n->p i n'):∀ m,(∀ i,i < m->∃ n,p i n)->∃ n,∀ i,i < m->p i n
 |0,_=>⟨0,fun i h=>absurd h (Nat.not_lt_zero i)⟩
 |m+1,h=>by
  obtain⟨n,hn⟩:=d8a hp m fun i hi=>h i om
  obtain⟨k,hk⟩:=h m om
  refine⟨max n k,fun i hi=>?_⟩
  rcases Nat.lt_succ_iff_lt_or_eq.1 hi with q|q
  ·exact hp i n _ (Nat.le_max_left n k) (hn i q)
  ·subst q;exact hp i k _ (Nat.le_max_right n k) hk
theorem f1f {m:Nat} {ops:List a0b} {s:St} (h:c8r pg.toCx (evF pg) m ops s):∃ n,c8r pg.toCx (b0v pg n) m ops s:=by
 rcases h with⟨d,od,τ,val,D⟩|⟨d,a,ε,val,Hs,D⟩|⟨a,h1,h2,r,h3⟩
 rotate_left
 rotate_left
 ·obtain⟨n,hn⟩:=c1g h3
  exact⟨n,.inr (.inr ⟨a,h1,h2,r,hn⟩)⟩
 rotate_left
 ·have key:∃ n,∀ i,i < m->∀ q,ops[i]? =some q->∀ x y,(i=d->x=false)->(i=a->y=false)->a0f pg.toCx (b0v pg n) q ⟨ε i,Hs x y,s.b⟩=some ⟨ε (i+1),Hs (x||decide (i=d)) (y||decide (i=a)),s.b⟩:=by
   refine d8a (p:=fun i n=> ∀ q,ops[i]? =some q->∀ x y,(i=d->x=false)->(i=a->y=false)->a0f pg.toCx (b0v pg n) q ⟨ε i,Hs x y,s.b⟩=some ⟨ε (i+1),Hs (x||decide (i=d)) (y||decide (i=a)),s.b⟩) (fun i n n' hn h q hq x y h1 h2=>a1c (a8k pg hn) (h q hq x y h1 h2)) m (fun i hi=>?_)
   have hil:i < ops.length:=Nat.lt_of_lt_of_le hi D.le
   have hq:=List.getElem?_eq_getElem hil
   have one:∀ x y,∃ n,(i=d->x=false)->(i=a->y=false)->a0f pg.toCx (b0v pg n) ops[i] ⟨ε i,Hs x y,s.b⟩=some ⟨ε (i+1),Hs (x||decide (i=d)) (y||decide (i=a)),s.b⟩:=fun x y=>by
     by_cases c1:i=d->x=false
     ·by_cases c2:i=a->y=false
      ·obtain⟨n,hn⟩:=a8m (D.run i _ x y hi hq c1 c2);exact⟨n,fun _ _=>hn⟩
      ·exact⟨0,fun _ h=>absurd h c2⟩
     ·exact⟨0,fun h=>absurd h c1⟩
   obtain⟨n1,g1⟩:=one false false
   obtain⟨n2,g2⟩:=one false true
   obtain⟨n3,g3⟩:=one true false
   obtain⟨n4,g4⟩:=one true true
   refine⟨n1+n2+n3+n4,fun q hq2 x y h1 h2=>?_⟩
   rw[hq]at hq2
   cases hq2
   cases x<;>cases y
   ·exact a1c (a8k pg om) (g1 h1 h2)
   ·exact a1c (a8k pg om) (g2 h1 h2)
   ·exact a1c (a8k pg om) (g3 h1 h2)
   ·exact a1c (a8k pg om) (g4 h1 h2)
  obtain⟨n,hn⟩:=key
  exact⟨n,.inr (.inl ⟨d,a,ε,val,Hs,D.ld,D.la,D.ne,D.le,D.zero,D.h0,D.env,fun i q x y hi hq h1 h2=>hn i hi q hq x y h1 h2⟩)⟩
 have key:∃ n,∀ i,i < m->∀ q,ops[i]? =some q->a0f pg.toCx (b0v pg n) q (τ i)=some (τ (i+1))/\(i < d->a0f pg.toCx (b0v pg n) q ⟨(τ i).e,(τ (d+1)).h,s.b⟩=some ⟨(τ (i+1)).e,(τ (d+1)).h,s.b⟩)/\(d < i->(∃ t,od.dst=some t/\t∈q.names)\/a0f pg.toCx (b0v pg n) q ⟨(τ i).e,s.h,s.b⟩=some ⟨(τ (i+1)).e,s.h,s.b⟩):=by
  refine d8a (p:=fun i n=> ∀ q,ops[i]? =some q->a0f pg.toCx (b0v pg n) q (τ i)=some (τ (i+1))/\(i < d->a0f pg.toCx (b0v pg n) q ⟨(τ i).e,(τ (d+1)).h,s.b⟩=some ⟨(τ (i+1)).e,(τ (d+1)).h,s.b⟩)/\(d < i->(∃ t,od.dst=some t/\t∈q.names)\/a0f pg.toCx (b0v pg n) q ⟨(τ i).e,s.h,s.b⟩=some ⟨(τ (i+1)).e,s.h,s.b⟩)) (fun i n n' hn h q hq=>?_) m (fun i hi=>?_)
  ·obtain⟨a,b,c⟩:=h q hq
   exact⟨a1c (a8k pg hn) a,fun x=>a1c (a8k pg hn) (b x),fun x=>(c x).imp id (a1c (a8k pg hn))⟩
  ·have hil:i < ops.length:=Nat.lt_of_lt_of_le hi D.le
   have hq:=List.getElem?_eq_getElem hil
   obtain⟨n1,h1⟩:=a8m (D.step i _ hi hq).1
   obtain⟨n2,h2⟩:∃ n,i < d->a0f pg.toCx (b0v pg n) ops[i] ⟨(τ i).e,(τ (d+1)).h,s.b⟩=some ⟨(τ (i+1)).e,(τ (d+1)).h,s.b⟩:=by
    by_cases c:i < d
    ·obtain⟨n,hn⟩:=a8m (D.ahead i _ c hq);exact⟨n,fun _=>hn⟩
    ·exact⟨0,fun x=>absurd x c⟩
   obtain⟨n3,h3⟩:∃ n,d < i->(∃ t,od.dst=some t/\t∈ops[i].names)\/a0f pg.toCx (b0v pg n) ops[i] ⟨(τ i).e,s.h,s.b⟩=some ⟨(τ (i+1)).e,s.h,s.b⟩:=by
    by_cases c:d < i
    ·rcases D.behind i _ c hi hq with x|x
     ·exact⟨0,fun _=> .inl x⟩
     ·obtain⟨n,hn⟩:=a8m x;exact⟨n,fun _=> .inr hn⟩
    ·exact⟨0,fun x=>absurd x c⟩
   refine⟨max n1 (max n2 n3),fun q hq2=>?_⟩
   rw[hq]at hq2
   cases hq2
   have l1:n1<=max n1 (max n2 n3):=Nat.le_max_left ..
   have l2:n2<=max n1 (max n2 n3):=Nat.le_trans (Nat.le_max_left n2 n3) (Nat.le_max_right ..)
   have l3:n3<=max n1 (max n2 n3):=Nat.le_trans (Nat.le_max_right n2 n3) (Nat.le_max_right ..)
   exact⟨a1c (a8k pg l1) h1,fun x=>a1c (a8k pg l2) (h2 x),fun x=>(h3 x).imp id (a1c (a8k pg l3))⟩
 obtain⟨n,hn⟩:=key
 exact⟨n,.inl ⟨d,od,τ,val,D.lt,D.le,D.odx,D.zero,fun i q hi hq=>⟨(hn i hi q hq).1,(D.step i q hi hq).2⟩,D.quiet,fun i q hi hq=>(hn i (Nat.lt_trans hi D.lt) q hq).2.1 hi,fun i q h1 h2 hq=>(hn i h2 q hq).2.2 h1⟩⟩
theorem e9l {m:Nat} {ops:List a0b} {s r:St} (h:b1e pg.toCx (evF pg) m ops s=some r):∃ n,b1e pg.toCx (b0v pg n) m ops s=some r:=by
 obtain⟨h1,h2⟩:=a3e.1 h
 obtain⟨n1,g1⟩:=b8z h1
 rcases h2 with⟨q,hq⟩|hD
 ·obtain⟨n2,g2⟩:=c1g hq
  exact⟨max n1 n2,a3e.2 ⟨a6l (a8k pg (Nat.le_max_left ..)) g1,.inl ⟨q,a8t (a8k pg (Nat.le_max_right ..)) g2⟩⟩⟩
 ·obtain⟨n2,g2⟩:=f1f hD
  exact⟨max n1 n2,a3e.2 ⟨a6l (a8k pg (Nat.le_max_left ..)) g1,.inr (c7s (a8k pg (Nat.le_max_right ..)) g2)⟩⟩
theorem c1f:∀ {c:a0e} {s:St} {r:Ex×St},evC pg.toCx (evF pg) (evL pg) c s=some r->∃ n,evC pg.toCx (b0v pg n) (c2n pg n) c s=some r:=by
 intro c
 induction c with
 |skip=>intro s r h;exact⟨0,h⟩
 |reg ops=>
  intro s r h;simp only[evC]at h⊢
  cases hx:a0s pg.toCx (evF pg) ops s with
  |none=>rw[hx]at h;cases h
  |some q=>rw[hx]at h;obtain⟨n,hn⟩:=b8z hx;exact⟨n,by rw[hn];exact h⟩
 |draw m ops=>
  intro s r h;simp only[evC]at h⊢
  cases hx:b1e pg.toCx (evF pg) m ops s with
  |none=>rw[hx]at h;cases h
  |some q=>rw[hx]at h;obtain⟨n,hn⟩:=e9l hx;exact⟨n,by rw[hn];exact h⟩
 |seq a b iha ihb=>
  intro s r h;simp only[evC]at h⊢
  cases hx:evC pg.toCx (evF pg) (evL pg) a s with
  |none=>rw[hx]at h;cases h
  |some q=>
   obtain⟨x,s'⟩:=q
   rw[hx]at h
   obtain⟨n,hn⟩:=iha hx
   cases x with
   |nrm=>
    obtain⟨m,hm⟩:=ihb h
    refine⟨max n m,?_⟩
    rw[a8b (a8k pg (Nat.le_max_left n m)) (e3m pg (Nat.le_max_left n m)) hn]
    exact a8b (a8k pg (Nat.le_max_right n m)) (e3m pg (Nat.le_max_right n m)) hm
   |exit i=>exact⟨n,by rw[hn];exact h⟩
   |ret=>exact⟨n,by rw[hn];exact h⟩
 |cond c a b iha ihb=>
  intro s r h;simp only[evC]at h⊢
  split at h
  ·split at h
   ·rename_i hb;simp only[if_pos hb];exact iha h
   ·rename_i hb;simp only[if_neg hb];exact ihb h
  ·cases h
 |block id b ih=>
  intro s r h;simp only[evC]at h⊢
  cases hx:evC pg.toCx (evF pg) (evL pg) b s with
  |none=>rw[hx]at h;cases h
  |some q=>rw[hx]at h;obtain⟨n,hn⟩:=ih hx;exact⟨n,by rw[hn];exact h⟩
 |scope b ih=>intro s r h;simp only[evC]at h⊢;exact ih h
 |loop k b ih=>
  intro s r h;simp only[evC]at h⊢
  cases hx:evC pg.toCx (evF pg) (evL pg) b ⟨a2d k s.e,s.h,s.h.length⟩with
  |none=>rw[hx]at h;cases h
  |some q=>
   obtain⟨x,s'⟩:=q
   rw[hx]at h
   obtain⟨n,hn⟩:=ih hx
   cases x with
   |nrm=>
    obtain⟨m,hm⟩:=c1v.1 h
    refine⟨max n m,?_⟩
    rw[a8b (a8k pg (Nat.le_max_left n m)) (e3m pg (Nat.le_max_left n m)) hn]
    exact e3m pg (Nat.le_max_right n m) _ _ _ _ hm
   |exit i=>exact⟨n,by rw[hn];exact h⟩
   |ret=>exact⟨n,by rw[hn];exact h⟩
 |exit i=>intro s r h;exact⟨0,h⟩
 |ret=>intro s r h;exact⟨0,h⟩
 |newrow a b=>intro s r h;exact⟨0,h⟩
 |bindrow a b c=>intro s r h;exact⟨0,h⟩
 |mkrow a=>intro s r h;exact⟨0,h⟩
 |bindto a b c=>intro s r h;exact⟨0,h⟩
 |freeze a=>intro s r h;exact⟨0,h⟩
end fin
noncomputable def ev (pg:Pg) (c:a0e) (s:St):Option (Ex×St):=evC pg.toCx (evF pg) (evL pg) c s
theorem f1i {α:Type} {a b:Option α} (h1:∀ r,a=some r->b=some r) (h2:∀ r,b=some r->a=some r):a=b:=by
 cases ha:a with
 |some r=>exact(h1 r ha).symm
 |none=>
  cases hb:b with
  |none=>rfl
  |some r=>rw[h2 r hb]at ha;cases ha
theorem h1q (pg:Pg) (k:List Nat) (b:a0e) (s:St):evL pg k b s=ev pg (.loop k b) s:=by
 refine f1i (fun r h=>?_) (fun r h=>?_)
 ·obtain⟨n,hn⟩:=c1v.1 h
  cases n with
  |zero=>rw[b1k]at hn;cases hn
  |succ n=>rw[a9m]at hn;exact a8b (e4y pg n) (f7i pg n) hn
 ·obtain⟨n,hn⟩:=c1f h
  exact c1v.2 ⟨n+1,by rw[a9m];exact hn⟩
theorem b1z {pg:Pg} {f:Nat} {F:List V->Hp->Option (V×Hp)} (ht:pg.tbl f=some (.prim F)) (a:List V) (h:Hp):evF pg f a h=F a h:=by
 refine f1i (fun r hr=>?_) (fun r hr=>?_)
 ·obtain⟨n,hn⟩:=a5t.1 hr
  cases n with
  |zero=>rw[a9e]at hn;cases hn
  |succ n=>rw[a5m,c1y,ht]at hn;exact hn
 ·exact a5t.2 ⟨1,by rw[a5m,c1y,ht];exact hr⟩
noncomputable def f0t (pg:Pg) (vf:VFn) (a:List V) (h:Hp):Option (V×Hp):=
 match ev pg vf.body ⟨a1a a,h,h.length⟩with
 |some (.nrm,s)|some (.ret,s)=>leave vf h.length s
 |_=>none
theorem d8l {pg:Pg} {f:Nat} {vf:VFn} (ht:pg.tbl f=some (.code vf)) (a:List V) (h:Hp):
 evF pg f a h=if a.length=vf.np then bare (a0w 0 a && !vf.keep) h (f0t pg vf a) else none:=by
 refine f1i (fun r hr=>?_) (fun r hr=>?_)
 ·obtain⟨n,hn⟩:=a5t.1 hr
  cases n with
  |zero=>rw[a9e]at hn;cases hn
  |succ n=>
   rw[a5m,c1y,ht]at hn
   simp only at hn
   split at hn
   ·rename_i hl;rw[if_pos hl]
    refine d7b (fun h r hn=>?_) hn
    cases hx:evC pg.toCx (b0v pg n) (c2n pg n) vf.body ⟨a1a a,h,h.length⟩with
    |none=>rw[hx]at hn;cases hn
    |some q=>rw[hx]at hn;rw[f0t,ev,a8b (e4y pg n) (f7i pg n) hx];exact hn
   ·cases hn
 ·split at hr
  ·rename_i hl
   have key:∀ h r,f0t pg vf a h=some r->∃ n,(match evC pg.toCx (b0v pg n) (c2n pg n) vf.body ⟨a1a a,h,h.length⟩with
       |some (.nrm,s)|some (.ret,s)=>leave vf h.length s
       |_=>none)=some r:=by
     intro h r hr
     rw[f0t]at hr
     cases hx:ev pg vf.body ⟨a1a a,h,h.length⟩with
     |none=>rw[hx]at hr;cases hr
     |some q=>
      rw[hx]at hr
      obtain⟨n,hn⟩:=c1f hx
      exact⟨n,by rw[hn];exact hr⟩
   cases ht':(a0w 0 a && !vf.keep)with
   |true=>
    rw[ht']at hr
    simp only[bare]at hr
    obtain⟨q,hq,rfl⟩:=Option.map_eq_some_iff.1 hr
    obtain⟨n,hn⟩:=key _ _ hq
    refine a5t.2 ⟨n+1,?_⟩
    rw[a5m,c1y,ht]
    simp only[if_pos hl,ht',bare]
    exact congrArg (Option.map fun r=>(r.1,h)) hn
   |false=>
    rw[ht']at hr
    simp only[bare]at hr
    obtain⟨n,hn⟩:=key _ _ hr
    refine a5t.2 ⟨n+1,?_⟩
    rw[a5m,c1y,ht]
    simp only[if_pos hl,ht',bare]
    exact hn
  ·cases hr
end Go.Vm
namespace Go.Vm
def Clean (n:Nat) (H:Hp):Prop:=∀ i c,i < n->H[i]? =some (.box c)->a0w n c=true
def f8x (C:Nat->List Value) (l:List (D×D)) (es:List MapEntry):Prop:=es.length=l.length/\∀ (i:Nat) p e,l[i]? =some p->es[i]? =some e->a2z C p.1 e.key/\a2z C p.2 e.val/\e.born=i
def e1w (g:Gh) (H:Hp) (w:World) (b cap:Nat):Ob->Prop
 | .box c=> ∃ cur e,w.heap[b]? =some (.cells cur e (0,0))/\a1o g H c cur.toList/\g.C b=[]
 | .frz c=>a1m g.C c (g.C b)
 | .map l=>(∃ es:Array MapEntry,w.heap[b]? =some (.map es l.length)/\f8x g.C l es.toList)/\g.C b=[]
 | .row sz l=> ∃ cur e,w.heap[b]? =some (.cells cur e (0,0))/\a1y g.C sz l (g.C b)/\0 < sz/\l.length<=cap/\cur.size=cap*sz/\cap<=maxLen
def f6q (cx:Cx) (g:Gh) (w:World):Prop:=∀ i o,cx.fx i=some o->w.heap[i]? =some o/\∀ k c,g.J k≠some (i,c)
structure Inv (cx:Cx) (g:Gh) (H:Hp) (w:World):Prop where
 inj:∀ i k b c c',g.J i=some (b,c)->g.J k=some (b,c')->i=k
 dom:∀ i b c,g.J i=some (b,c)->i < H.length/\b < w.heap.size
 ob:∀ i b c o,g.J i=some (b,c)->H[i]? =some o->e1w g H w b c o
 imm:∀ b,g.C b≠[]->∃ cur e fz,w.heap[b]? =some (.cells cur e fz)/\g.C b <+:cur.toList
 und:Clean H.length H
 glob:∀ i,∃ vs,vs <+:g.C i/\a1m g.C (cx.gv i) vs
 fix:f6q cx g w
theorem f6q.mono {cx:Cx} {g g':Gh} {w w':World} (h:f6q cx g w) (hh:∀ b,b < w.heap.size->(∀ k c,g.J k≠some (b,c))->w'.heap[b]? =w.heap[b]? /\∀ k c,g'.J k≠some (b,c)):f6q cx g' w':=fun i o hi=>by
  obtain⟨h1,h2⟩:=h i o hi
  obtain⟨h3,h4⟩:=hh i (Array.getElem?_eq_some_iff.1 h1).1 h2
  exact⟨h3.trans h1,h4⟩
structure Ext (nb:Nat) (g:Gh) (H:Hp) (w:World) (g':Gh) (H':Hp) (w':World):Prop where
 os:w'.os=w.os
 tape:w'.tape=w.tape
 output:w'.output=w.output
 size:w.heap.size<=w'.heap.size
 frame:∀ b,b < w.heap.size->(∀ i c,g.J i≠some (b,c))->w'.heap[b]? =w.heap[b]? /\g'.C b=g.C b
 keep:Keep H.length g H g' H'
 jnew:∀ i b c,g'.J i=some (b,c)->b < w.heap.size->∃ k c',g.J k=some (b,c')
 clean:∀ n,n<=nb->Clean n H->Clean n H'
 len:H.length<=H'.length
theorem Ext.refl (nb:Nat) (g:Gh) (H:Hp) (w:World):Ext nb g H w g H w:=
 ⟨rfl,rfl,rfl,Nat.le_refl _,fun _ _ _=>⟨rfl,rfl⟩,Keep.refl _ _ _,fun i _ c h _=>⟨i,c,h⟩,fun _ _ h=>h,Nat.le_refl _⟩
theorem Ext.trans {nb nb':Nat} {g g1 g2:Gh} {H H1 H2:Hp} {w w1 w2:World} (h:Ext nb g H w g1 H1 w1) (k:Ext nb' g1 H1 w1 g2 H2 w2) (hb:nb<=nb'):Ext nb g H w g2 H2 w2:=by
 refine⟨k.os.trans h.os,k.tape.trans h.tape,k.output.trans h.output,Nat.le_trans h.size k.size,fun b hb hj=>?_,h.keep.trans k.keep h.len,fun i b c hi hlt=>?_,fun n hn hc=>k.clean n om (h.clean n hn hc),Nat.le_trans h.len k.len⟩
 ·obtain⟨a1,a2⟩:=h.frame b hb hj
  obtain⟨b1,b2⟩:=k.frame b (Nat.lt_of_lt_of_le hb h.size) (fun i c hi=>by
    obtain⟨k',c',hk⟩:=h.jnew i b c hi hb
    exact hj k' c' hk)
  exact⟨b1.trans a1,b2.trans a2⟩
 ·obtain⟨k1,c1,h1⟩:=k.jnew i b c hi (Nat.lt_of_lt_of_le hlt h.size)
  exact h.jnew k1 b c1 h1 hlt
theorem Ext.le {nb nb':Nat} {g g':Gh} {H H':Hp} {w w':World} (h:Ext nb g H w g' H' w') (hn:nb'<=nb):Ext nb' g H w g' H' w':=
 ⟨h.os,h.tape,h.output,h.size,h.frame,h.keep,h.jnew,fun n hn'=>h.clean n om,h.len⟩
def a8g (g:Gh) (H:Hp) (N:Nat) (e:Env) (t:Array Value):Prop:=
 t.size=N/\∀ i,i < N->Rep g H (a1k e i) (t.getD i undef)/\(a1k e i).und H.length=true
mutual
theorem V.a6b {n m:Nat} (h:n<=m):∀ v:V,v.und n=true->v.und m=true
 | .d _,_=>rfl
 | .agg l,u=>by simp only[V.und]at u⊢;exact a3l h l u
 | .tup l,u=>by simp only[V.und]at u⊢;exact a3l h l u
 | .nils,_=>rfl
 | .row id _,u=>by simp only[V.und,decide_eq_true_eq]at u⊢;omega
 | .arr id _ _,u=>by simp only[V.und,decide_eq_true_eq]at u⊢;omega
 | .ptr id _,u=>by simp only[V.und,decide_eq_true_eq]at u⊢;omega
 | .mp id,u=>by simp only[V.und,decide_eq_true_eq]at u⊢;omega
 | .ro _ _,_=>rfl
 | .fn _ l,u=>by simp only[V.und]at u⊢;exact a3l h l u
 | .fm _ l,u=>by simp only[V.und]at u⊢;exact a3l h l u
 | .nul,_=>rfl
 | .nof,_=>rfl
 | .ifc _,_=>rfl
 | .raw _,_=>rfl
 | .nmp,_=>rfl
 | .nile,_=>rfl
 | .undef,_=>rfl
theorem a3l {n m:Nat} (h:n<=m):∀ l:List V,a0w n l=true->a0w m l=true
 |[],_=>rfl
 |v::l,u=>by
  simp only[a0w,Bool.and_eq_true]at u⊢
  exact⟨V.a6b h v u.1,a3l h l u.2⟩
end
theorem a8g.ext {nb:Nat} {g g':Gh} {H H':Hp} {w w':World} {N:Nat} {e:Env} {t:Array Value} (h:a8g g H N e t) (x:Ext nb g H w g' H' w'):a8g g' H' N e t:=
 ⟨h.1,fun i hi=>⟨a2m x.keep.w _ _ (h.2 i hi).2 (h.2 i hi).1,V.a6b x.len _ (h.2 i hi).2⟩⟩
def g3x (d:Option Nat) (x:Value) (t:Array Value):Array Value:=match d with|some d=>t.setIfInBounds d x|none=>t
theorem a8g.put {g:Gh} {H:Hp} {N:Nat} {e:Env} {t:Array Value} (h:a8g g H N e t) {d:Option Nat} {v:V} {x:Value} (hd:∀ k,d=some k->k < N) (hr:Rep g H v x) (hu:v.und H.length=true):
 a8g g H N (a7y d v e) (g3x d x t):=by
 cases d with
 |none=>exact h
 |some k=>
  simp only[g3x]
  refine⟨by simpa using h.1,fun i hi=>?_⟩
  have hk:=hd k rfl
  simp only[a7y,a1k]
  by_cases hki:k=i
  ·subst hki
   rw[if_pos rfl]
   have:(t.setIfInBounds k x).getD k undef=x:=by simp[Array.getD,h.1,hi]
   rw[this]
   exact⟨hr,hu⟩
  ·rw[if_neg hki]
   have:(t.setIfInBounds k x).getD i undef=t.getD i undef:=by
    simp only[Array.getD_eq_getD_getElem?,Array.getElem?_setIfInBounds]
    rw[if_neg hki]
   rw[this]
   exact h.2 i hi
end Go.Vm
namespace Go.Vm
inductive a0h (P:Program) (cx:Cx) (nb:Nat) (g:Gh) (H:Hp) (w:World) (r:V) (H':Hp):Result Next->Prop
 |val (g':Gh) (x:Value) (w':World):Inv cx g' H' w'->Rep g' H' r x->r.und H'.length=true->Ext nb g H w g' H' w'->a0h P cx nb g H w r H' (.ok (.value x) w')
 |skip (g':Gh) (w':World):Inv cx g' H' w'->r= .undef->Ext nb g H w g' H' w'->a0h P cx nb g H w r H' (.ok .skip w')
 |call (f:FuncId) (args:Array Value):Calls P f args w (fun e w'=> ∃ g' x,e= .returned x/\Inv cx g' H' w'/\Rep g' H' r x/\r.und H'.length=true/\Ext nb g H w g' H' w')->a0h P cx nb g H w r H' (.ok (.enter f args) w)
theorem a0h.wp {P:Program} {cx:Cx} {nb:Nat} {g:Gh} {H:Hp} {w:World} {r:V} {H':Hp} {o:Oper} {a:Act} {K:Act->World->Prop} {Q:Exit->Act->World->Prop}
 (h:a0h P cx nb g H w r H' ((execOp a.eval o).run P w))
 (hk:∀ g' x w',Inv cx g' H' w'->Rep g' H' r x->r.und H'.length=true->Ext nb g H w g' H' w'->K (a.put o.dst x) w'):o.wp P a w K Q:=by
 unfold Oper.wp
 generalize(execOp a.eval o).run P w=res at h
 cases h with
 |val g' x w' h1 h2 h3 h4=>exact hk g' x w' h1 h2 h3 h4
 |skip g' w' h1 h2 h4=>subst h2;exact hk g' Go.undef w' h1 trivial rfl h4
 |call f args hc=>
  rw[Oper.upon_enter]
  refine hc.mono fun e w' he=>?_
  obtain⟨g',x,rfl,h1,h2,h3,h4⟩:=he
  exact hk g' x w' h1 h2 h3 h4
section
variable {P:Program} {cx:Cx} {nb:Nat} {g:Gh} {H:Hp} {w:World}
theorem a0h.pure {r:V} {x:Value} {res:Result Next} (hI:Inv cx g H w) (he:res= .ok (.value x) w) (hr:Rep g H r x) (hu:r.und H.length=true):a0h P cx nb g H w r H res:=by
 subst he
 exact .val g x w hI hr hu (Ext.refl ..)
theorem a9f:∀ {l:List D} {vs:List Value},a1m g.C l vs->a1o g H (l.map V.d) vs
 |[],vs,r=>by simp only[a1m]at r;subst r;simp[a1o]
 |d::ds,vs,r=>by
  simp only[a1m]at r
  obtain⟨y,ys,rfl,h1,h2,h3⟩:=r
  simp only[List.map_cons,a1o]
  refine⟨y,ys,rfl,?_,?_,a9f h3⟩
  ·cases d<;>first|rfl|cases h1
  ·simp only[Rep];exact d5n h1 h2
theorem a8p (n:Nat):∀ l:List D,a0w n (l.map V.d)=true
 |[]=>rfl
 |d::ds=>by simp only[List.map_cons,a0w,a8p n ds,Bool.and_true];rfl
theorem c3h:∀ {l:List V} {ds:List D} {vs:List Value},b6m l=some ds->a1o g H l vs->a1m g.C ds vs
 |[],ds,vs,h,r=>by simp only[b6m,Option.some.injEq]at h;subst h;simpa only[a1o,a1m] using r
 |v::l,ds,vs,h,r=>by
  simp only[a1o]at r
  obtain⟨y,ys,rfl,h1,h2,h3⟩:=r
  cases v with
  |d x=>
   simp only[b6m]at h
   obtain⟨xs,hx,rfl⟩:=Option.map_eq_some_iff.1 h
   simp only[a1m]
   have hone:x.one=true:=by cases x<;>first|rfl|cases h1
   refine⟨y,ys,rfl,hone,?_,c3h hx h3⟩
   simp only[Rep]at h2
   cases x<;>first|exact h2|cases hone
  |_=>simp[b6m]at h
theorem b8q {l:List V} {vs:List Value} (r:a1o g H l vs):Rep g H (a9w l) (.agg vs.toArray):=by
 unfold a9w
 split
 ·rename_i ds hd
  simp only[Rep,a2z]
  exact⟨_,rfl,by simpa using c3h hd r⟩
 ·simp only[Rep]
  exact⟨_,rfl,by simpa using r⟩
theorem b9s {l:List V} {n:Nat} (r:a0w n l=true):(a9w l).und n=true:=by
 unfold a9w
 split
 ·rfl
 ·simpa only[V.und] using r
theorem c4j {v:V} {x:Value} (ho:v.cells.all V.one=true) (r:Rep g H v x):a1o g H v.cells x.cells.toList:=by
 have one (hv:v.one=true) (hc:v.cells=[v]) (hx:x.cells= #[x]):a1o g H v.cells x.cells.toList:=by
  rw[hc,hx];simp only[a1o];exact⟨x,[],rfl,hv,r,rfl⟩
 cases v with
 |d d=>
  cases d with
  |agg l=>
   simp only[Rep,a2z]at r
   obtain⟨cs,rfl,r⟩:=r
   exact a9f r
  |bool b=>exact one rfl rfl (by simp only[Rep,a2z,a0p]at r;cases r;rfl)
  |int k n=>exact one rfl rfl (by simp only[Rep,a2z,a0p]at r;cases r;rfl)
  |str s=>exact one rfl rfl (by simp only[Rep,a2z,a0p]at r;cases r;rfl)
  |sl l=>exact one rfl rfl (by simp only[Rep,a2z,a0p]at r;obtain⟨a,cap,h,_⟩:=r;cases h;rfl)
 |agg l=>
  simp only[Rep]at r
  obtain⟨cs,rfl,r⟩:=r
  exact r
 |tup l=>cases ho
 |undef=>cases ho
 |nils=>exact one rfl rfl (by simp only[Rep]at r;subst r;rfl)
 |row id len=>exact one rfl rfl (by simp only[Rep]at r;obtain⟨a,cap,sz,l,rfl,_⟩:=r;rfl)
 |arr id off len=>exact one rfl rfl (by simp only[Rep]at r;obtain⟨_,b,c,cap,_,rfl,_⟩:=r;rfl)
 |ptr id off=>exact one rfl rfl (by simp only[Rep]at r;obtain⟨_,b,c,_,rfl⟩:=r;rfl)
 |mp id=>exact one rfl rfl (by simp only[Rep]at r;obtain⟨_,b,c,_,rfl⟩:=r;rfl)
 |ro l off=>exact one rfl rfl (by simp only[Rep]at r;obtain⟨b,o,vs,rfl,_⟩:=r;rfl)
 |fn f c=>exact one rfl rfl (by simp only[Rep]at r;obtain⟨cs,rfl,_⟩:=r;rfl)
 |fm f c=>exact one rfl rfl (by simp only[Rep]at r;obtain⟨cs,rfl,_⟩:=r;rfl)
 |nul=>exact one rfl rfl (by simp only[Rep]at r;subst r;rfl)
 |nof=>exact one rfl rfl (by simp only[Rep]at r;subst r;rfl)
 |ifc b=>exact one rfl rfl (by simp only[Rep]at r;rcases r with⟨_,rfl⟩|⟨_,t,y,rfl⟩<;>rfl)
 |raw y=>cases ho
 |nmp=>exact one rfl rfl (by simp only[Rep]at r;subst r;rfl)
 |nile=>exact one rfl rfl (by simp only[Rep]at r;obtain⟨a,rfl,_⟩:=r;rfl)
theorem b8o {v:V} {n:Nat} (u:v.und n=true) (ho:v.cells.all V.one=true):a0w n v.cells=true:=by
 cases v with
 |d d=>cases d<;>first|rfl|exact a8p n _
 |agg l=>simpa only[V.und,V.cells] using u
 |tup l=>cases ho
 |undef=>cases ho
 |_=>simp only[V.cells,a0w,Bool.and_true];exact u
theorem a3i:∀ {l:List V} {vs:List Value},a1o g H l vs->vs.length=l.length
 |[],vs,r=>by simp only[a1o]at r;subst r;rfl
 |d::ds,vs,r=>by
  simp only[a1o]at r
  obtain⟨y,ys,rfl,_,_,h3⟩:=r
  simp[a3i h3]
theorem g4p {v:V} {x:Value} (h:v.one=true) (r:Rep g H v x):x.oneCell'=true:=by
 cases v with
 |d d=>
  simp only[Rep]at r
  cases d with
  |agg l=>cases h
  |_=>exact c5n rfl r
 |agg l=>cases h
 |tup l=>cases h
 |undef=>cases h
 |nils=>simp only[Rep]at r;subst r;rfl
 |row id len=>simp only[Rep]at r;obtain⟨a,cap,sz,l,rfl,_⟩:=r;rfl
 |arr id off len=>simp only[Rep]at r;obtain⟨_,b,c,cap,_,rfl,_⟩:=r;rfl
 |ptr id off=>simp only[Rep]at r;obtain⟨_,b,c,_,rfl⟩:=r;rfl
 |mp id=>simp only[Rep]at r;obtain⟨_,b,c,_,rfl⟩:=r;rfl
 |ro l off=>simp only[Rep]at r;obtain⟨b,o,vs,rfl,_⟩:=r;rfl
 |fn f c=>simp only[Rep]at r;obtain⟨cs,rfl,_⟩:=r;rfl
 |fm f c=>simp only[Rep]at r;obtain⟨cs,rfl,_⟩:=r;rfl
 |nul=>simp only[Rep]at r;subst r;rfl
 |nof=>simp only[Rep]at r;subst r;rfl
 |ifc b=>simp only[Rep]at r;rcases r with⟨_,rfl⟩|⟨_,t,y,rfl⟩<;>rfl
 |raw y=>cases h
 |nmp=>simp only[Rep]at r;subst r;rfl
 |nile=>simp only[Rep]at r;obtain⟨a,rfl,_⟩:=r;rfl
theorem c7x:∀ {l:List V} {vs:List Value},a1o g H l vs->∀ v∈vs,v.oneCell'=true
 |[],vs,r,v,hv=>by simp only[a1o]at r;subst r;cases hv
 |d::ds,vs,r,v,hv=>by
  simp only[a1o]at r
  obtain⟨y,ys,rfl,h1,h2,h3⟩:=r
  cases hv with
  |head=>exact g4p h1 h2
  |tail _ hm=>exact c7x h3 v hm
theorem b3h:∀ {l:List V} {vs:List Value} {i:Nat} {v:V},a1o g H l vs->l[i]? =some v->∃ y,vs[i]? =some y/\v.one=true/\Rep g H v y
 |[],vs,i,d,r,h=>by simp at h
 |d::ds,vs,0,d',r,h=>by
  simp only[a1o]at r
  obtain⟨y,ys,rfl,h1,h2,h3⟩:=r
  simp only[List.getElem?_cons_zero,Option.some.injEq]at h
  subst h
  exact⟨y,rfl,h1,h2⟩
 |d::ds,vs,i+1,d',r,h=>by
  simp only[a1o]at r
  obtain⟨y,ys,rfl,h1,h2,h3⟩:=r
  simp only[List.getElem?_cons_succ]at h⊢
  exact b3h h3 h
theorem b4t:∀ {l:List V} {vs:List Value} (k:Nat),a1o g H l vs->a1o g H (l.take k) (vs.take k)
 |[],vs,k,r=>by simp only[a1o]at r;subst r;simp[a1o]
 |d::ds,vs,0,r=>by simp[a1o]
 |d::ds,vs,k+1,r=>by
  simp only[a1o]at r
  obtain⟨y,ys,rfl,h1,h2,h3⟩:=r
  simp only[List.take_succ_cons,a1o]
  exact⟨y,ys.take k,rfl,h1,h2,b4t k h3⟩
theorem b5l:∀ {l:List V} {vs:List Value} (k:Nat),a1o g H l vs->a1o g H (l.drop k) (vs.drop k)
 |[],vs,k,r=>by simp only[a1o]at r;subst r;simp[a1o]
 |d::ds,vs,0,r=>by simpa using r
 |d::ds,vs,k+1,r=>by
  simp only[a1o]at r
  obtain⟨y,ys,rfl,h1,h2,h3⟩:=r
  simp only[List.drop_succ_cons]
  exact b5l k h3
theorem b8h {n:Nat}:∀ {l:List V} {i:Nat} {v:V},a0w n l=true->l[i]? =some v->v.und n=true
 |[],i,v,_,h=>by simp at h
 |x::xs,0,v,u,h=>by
  simp only[a0w,Bool.and_eq_true]at u
  simp only[List.getElem?_cons_zero,Option.some.injEq]at h
  subst h;exact u.1
 |x::xs,i+1,v,u,h=>by
  simp only[a0w,Bool.and_eq_true]at u
  simp only[List.getElem?_cons_succ]at h
  exact b8h u.2 h
theorem b9m {n:Nat}:∀ {l:List V} (k:Nat),a0w n l=true->a0w n (l.drop k)=true
 |[],k,u=>by simp[a0w]
 |x::xs,0,u=>by simpa using u
 |x::xs,k+1,u=>by
  simp only[a0w,Bool.and_eq_true]at u
  simp only[List.drop_succ_cons]
  exact b9m k u.2
theorem b9q {n:Nat}:∀ {l:List V} (k:Nat),a0w n l=true->a0w n (l.take k)=true
 |[],k,u=>by simp[a0w]
 |x::xs,0,u=>by simp[a0w]
 |x::xs,k+1,u=>by
  simp only[a0w,Bool.and_eq_true]at u
  simp only[List.take_succ_cons,a0w,Bool.and_eq_true]
  exact⟨u.1,b9q k u.2⟩
theorem c3u {v:V} {d:D} {x:Value} (hI:Inv cx g H w) (h:b1i H v=some d) (r:Rep g H v x):a2z g.C d x:=by
 cases v with
 |d y=>simp only[b1i,Option.some.injEq]at h;subst h;simpa only[Rep] using r
 |nils=>simp only[b1i,Option.some.injEq]at h;subst h;simp only[Rep]at r;subst r;exact⟨none,0,rfl,Nat.le_refl _,.inl rfl⟩
 |nile=>simp only[b1i,Option.some.injEq]at h;subst h;simp only[Rep]at r;obtain⟨a,rfl,_⟩:=r;exact⟨a,0,rfl,Nat.le_refl _,.inl rfl⟩
 |row id len=>
  simp only[Rep]at r
  obtain⟨a,cap,sz,l,rfl,ho,h1,h2⟩:=r
  simp only[b1i,ho]at h
  split at h
  ·rename_i hl
   simp only[Option.some.injEq]at h
   subst h
   simp only[a2z,a0p]
   refine⟨a,cap,by rw[hl],?_⟩
   rcases h2 hl.symm with⟨h0,_,_⟩|⟨b,hJ,rfl⟩
   ·rw[h0]at hl
    have:=List.eq_nil_of_length_eq_zero hl
    subst this
    exact⟨Nat.zero_le _,.inl rfl⟩
   ·have:=hI.ob id b cap _ hJ ho
    obtain⟨cur,e,_,h4,h5,h6,_⟩:=this
    exact⟨h6,.inr ⟨b,0,sz,g.C b,rfl,h5,by simp,h4⟩⟩
  ·cases h
 |arr id off len=>
  simp only[Rep]at r
  obtain⟨⟨o,ho,_⟩,b,c,cap,hJ,rfl,hlc⟩:=r
  simp only[b1i,ho]at h
  split at h
  ·rename_i c' hc
   simp only[Option.some.injEq]at hc
   subst hc
   split at h
   ·rename_i hl
    simp only[Option.some.injEq]at h
    subst h
    simp only[a2z,a0p]
    refine⟨_,cap,by simp;omega,by simp;omega,.inr ⟨b,off,1,((g.C b).drop off).take len,rfl,om,List.take_prefix _ _,?_⟩⟩
    have:=hI.ob id b c _ hJ ho
    exact e0w (c8n len (c8l off this))
   ·cases h
  ·cases h
 |_=>simp[b1i]at h
theorem e1g (hI:Inv cx g H w):∀ {l:List V} {ds:List D} {vs:List Value},e4x H l=some ds->a1o g H l vs->a1m g.C ds vs
 |[],ds,vs,h,r=>by simp only[e4x,Option.some.injEq]at h;subst h;simpa only[a1o,a1m] using r
 |v::l,ds,vs,h,r=>by
  simp only[a1o]at r
  obtain⟨y,ys,rfl,h1,h2,h3⟩:=r
  simp only[e4x]at h
  split at h
  ·rename_i x xs hx hxs
   simp only[Option.some.injEq]at h
   subst h
   simp only[a1m]
   have hrep:=c3u hI hx h2
   have hone:x.one=true:=by
    cases v with
    |d q=>simp only[b1i,Option.some.injEq]at hx;subst hx;cases q<;>first|rfl|cases h1
    |nils=>simp only[b1i,Option.some.injEq]at hx;subst hx;rfl
    |nile=>simp only[b1i,Option.some.injEq]at hx;subst hx;rfl
    |row id len=>simp only[b1i]at hx;split at hx<;>first|(split at hx<;>cases hx;rfl)|cases hx
    |arr id off len=>simp only[b1i]at hx;split at hx<;>first|(split at hx<;>cases hx;rfl)|cases hx
    |_=>simp[b1i]at hx
   refine⟨y,ys,rfl,hone,?_,e1g hI hxs h3⟩
   cases x<;>first|exact hrep|cases hone
  ·cases h
theorem c4x {v:V} {d:D} {x:Value} (hI:Inv cx g H w) (h:toD H v=some d) (r:Rep g H v x):a2z g.C d x:=by
 cases v with
 |agg l=>
  simp only[toD]at h
  obtain⟨ds,hd,rfl⟩:=Option.map_eq_some_iff.1 h
  simp only[Rep]at r
  obtain⟨cs,rfl,r⟩:=r
  exact⟨cs,rfl,e1g hI hd r⟩
 |_=>exact c3u hI (by simpa only[toD] using h) r
theorem e6q {v:V} {x:Value} (hI:Inv cx g H w) (r:Rep g H v x):Rep g H (toArg H v) x:=by
 unfold toArg
 split
 ·rename_i d hd;simp only[Rep];exact c4x hI hd r
 ·exact r
theorem f1c {v:V} {n:Nat} (u:v.und n=true):(toArg H v).und n=true:=by
 unfold toArg
 split
 ·rfl
 ·exact u
end
end Go.Vm
namespace Go.Vm
section
variable {P:Program} {cx:Cx} {nb:Nat} {g:Gh} {H:Hp} {w:World}
theorem c1m {x:Value} {v:V} (h:d2v x=some v):Rep g H v x/\v.und 0=true/\v.one=true:=by
 unfold d2v at h
 split at h<;>first|cases h|skip
 ·exact⟨by simp[Rep,a2z,a0p],rfl,rfl⟩
 ·exact⟨by simp[Rep,a2z,a0p],rfl,rfl⟩
 ·rename_i s
  refine⟨?_,rfl,rfl⟩
  simp only[Rep,a2z,a0p]
 ·exact⟨by simp[Rep],rfl,rfl⟩
 ·exact⟨by simp[Rep],rfl,rfl⟩
 ·exact⟨by simp[Rep],rfl,rfl⟩
 ·exact⟨by simp[Rep],rfl,rfl⟩
 ·exact⟨by simp[Rep],rfl,rfl⟩
theorem a3w:∀ {xs:List Value} {l:List V},b3l xs=some l->a1o g H l xs/\a0w 0 l=true
 |[],l,h=>by simp only[b3l,Option.some.injEq]at h;subst h;exact⟨by simp[a1o],rfl⟩
 |x::xs,l,h=>by
  simp only[b3l]at h
  split at h
  ·rename_i v vs hv hvs
   simp only[Option.some.injEq]at h
   subst h
   obtain⟨h1,h2,h3⟩:=c1m (g:=g) (H:=H) hv
   obtain⟨h4,h5⟩:=a3w hvs
   exact⟨by simp only[a1o];exact⟨x,xs,rfl,h3,h1,h4⟩,by simp only[a0w,h2,h5,Bool.and_self]⟩
  ·cases h
theorem a0u {N:Nat} {e:Env} {a:Act} (hI:Inv cx g H w) (hE:a8g g H N e a.tmps) {x:Operand} {vx:Opd} (h:a8j x=some vx) (hl:vx.lt N=true):
 Rep g H (evO cx e vx) (a.eval x)/\(evO cx e vx).und H.length=true:=by
 unfold a8j at h
 split at h
 ·rename_i t
  simp only[Option.some.injEq]at h
  subst h
  exact hE.2 t (by simpa [Opd.lt] using hl)
 ·rename_i c
  obtain⟨l,hl',rfl⟩:=Option.map_eq_some_iff.1 h
  obtain⟨h1,h2⟩:=a3w (g:=g) (H:=H) hl'
  have:=b8q h1
  refine⟨?_,V.a6b (Nat.zero_le _) _ (b9s h2)⟩
  simpa [evO,Act.eval] using this
 ·rename_i v _
  obtain⟨q,hq,rfl⟩:=Option.map_eq_some_iff.1 h
  obtain⟨h1,h2,_⟩:=c1m (g:=g) (H:=H) hq
  exact⟨h1,V.a6b (Nat.zero_le _) _ h2⟩
 ·rename_i i
  simp only[Option.some.injEq]at h
  subst h
  obtain⟨vs,h1,h2⟩:=hI.glob i
  refine⟨?_,rfl⟩
  simp only[evO,Rep,Act.eval]
  exact⟨i,0,vs,rfl,by simpa using h1,h2⟩
 ·simp only[Option.some.injEq]at h
  subst h
  refine⟨?_,rfl⟩
  simp only[evO,Rep,Act.eval]
  exact⟨#[],rfl,by simp[a0t]⟩
theorem b7v {N:Nat} {e:Env} {a:Act} (hI:Inv cx g H w) (hE:a8g g H N e a.tmps):∀ {xs:List Operand} {vs:List Opd},b1q xs=some vs->vs.all (Opd.lt N)=true->
 a0t g H (vs.map (evO cx e)) (xs.map a.eval)/\a0w H.length (vs.map (evO cx e))=true
 |[],vs,h,_=>by simp only[b1q,Option.some.injEq]at h;subst h;exact⟨by simp[a0t],rfl⟩
 |x::xs,vs,h,hl=>by
  simp only[b1q]at h
  split at h
  ·rename_i v vs' hv hvs
   simp only[Option.some.injEq]at h
   subst h
   simp only[List.all_cons,Bool.and_eq_true]at hl
   obtain⟨h1,h2⟩:=a0u hI hE hv hl.1
   obtain⟨h3,h4⟩:=b7v hI hE hvs hl.2
   exact⟨by simp only[List.map_cons,a0t];exact⟨_,_,rfl,h1,h3⟩,by simp only[List.map_cons,a0w,h2,h4,Bool.and_self]⟩
  ·cases h
theorem a5c (hI:Inv cx g H w):∀ {l:List V} {vs:List Value},a0t g H l vs->a0t g H (l.map (toArg H)) vs
 |[],vs,r=>by simpa only[a0t,List.map_nil] using r
 |v::l,vs,r=>by
  simp only[a0t,List.map_cons]at r⊢
  obtain⟨y,ys,rfl,h1,h2⟩:=r
  exact⟨y,ys,rfl,e6q hI h1,a5c hI h2⟩
theorem b3n {n:Nat}:∀ {l:List V},a0w n l=true->a0w n (l.map (toArg H))=true
 |[],_=>rfl
 |v::l,u=>by
  simp only[a0w,List.map_cons,Bool.and_eq_true]at u⊢
  exact⟨f1c u.1,b3n u.2⟩
theorem a7j:∀ {l l':List V} {vs vs':List Value},a0t g H l vs->a0t g H l' vs'->a0t g H (l++l') (vs++vs')
 |[],l',vs,vs',r,r'=>by simp only[a0t]at r;subst r;exact r'
 |v::l,l',vs,vs',r,r'=>by
  simp only[a0t]at r
  obtain⟨y,ys,rfl,h1,h2⟩:=r
  simp only[List.cons_append,a0t]
  exact⟨y,ys++vs',rfl,h1,a7j h2 r'⟩
theorem a4v {n:Nat}:∀ {l l':List V},a0w n l=true->a0w n l'=true->a0w n (l++l')=true
 |[],l',_,u'=>u'
 |v::l,l',u,u'=>by
  simp only[a0w,List.cons_append,Bool.and_eq_true]at u⊢
  exact⟨u.1,a4v u.2 u'⟩
theorem a9q {k:IntKind} {n:Int} {x:Value} (r:Rep g H (.d (.int k n)) x):x= .int k n:=by simp only[Rep,a2z,a0p]at r;cases r;rfl
theorem a8f {b:Bool} {x:Value} (r:Rep g H (.d (.bool b)) x):x= .bool b:=by simp only[Rep,a2z,a0p]at r;cases r;rfl
theorem c1c {s:List UInt8} {x:Value} (r:Rep g H (.d (.str s)) x):x= .string ⟨s.toArray⟩:=by simp only[Rep,a2z,a0p]at r;cases r;rfl
theorem a7l (k:IntKind) (n:Int):Rep g H (.d (.int k n)) (.int k n):=by simp[Rep,a2z,a0p]
theorem a9z (b:Bool):Rep g H (.d (.bool b)) (.bool b):=by simp[Rep,a2z,a0p]
theorem d6e (s:List UInt8):Rep g H (.d (.str s)) (.string ⟨s.toArray⟩):=by simp[Rep,a2z,a0p]
theorem g0s {op:BinOp} {vx vy r:V} {x y:Value} (t:TypeId) (h:a7n op vx vy=some r) (rx:Rep g H vx x) (ry:Rep g H vy y) (tx ty:Operand):
 ∃ z,(do eqGuard op t tx ty x y;binOp op t x y:Sem Value).run P w= .ok z w/\Rep g H r z/\r.und H.length=true:=by
 unfold a7n at h
 split at h
 ·rename_i k a k' b
  obtain rfl:=a9q rx
  obtain rfl:=a9q ry
  have hg:∀ op,(eqGuard op t tx ty (.int k a) (.int k' b)).run P w= .ok () w:=by
   intro op;cases op<;>simp[eqGuard]
  simp only[Sem.run_bind,hg,Result.andThen_ok]
  cases op<;>simp only at h
  case shl=>
   split at h<;>cases h
   refine⟨_,?_,a7l _ _,rfl⟩
   simp[binOp,Op.shift];omega
  case shr=>
   split at h<;>cases h
   refine⟨_,?_,a7l _ _,rfl⟩
   simp[binOp,Op.shift];omega
  case and|or|xor|andNot=>
   split at h
   ·rename_i hk;subst hk
    simp only[c9c,Option.map_some,Option.some.injEq]at h
    subst h
    exact⟨_,by simp[binOp,Op.intBits],a7l _ _,rfl⟩
   ·cases h
  case quo|rem=>
   split at h<;>cases h
   rename_i hk
   obtain⟨rfl,hb⟩:=hk
   exact⟨_,by simp[binOp,Op.intDiv,hb],a7l _ _,rfl⟩
  case add|sub|mul=>
   split at h<;>cases h
   rename_i hk;subst hk
   exact⟨_,by simp[binOp,Op.intArith],a7l _ _,rfl⟩
  all_goals
   split at h<;>cases h
   rename_i hk;subst hk
   exact⟨_,by simp[binOp,Op.intCmp],a9z _,rfl⟩
 ·rename_i a b
  obtain rfl:=c1c rx
  obtain rfl:=c1c ry
  have hg:∀ op,(eqGuard op t tx ty (.string ⟨a.toArray⟩) (.string ⟨b.toArray⟩)).run P w= .ok () w:=by
   intro op;cases op<;>simp[eqGuard]
  simp only[Sem.run_bind,hg,Result.andThen_ok]
  cases op<;>simp only at h<;>first|cases h|skip
  case add=>
   split at h<;>cases h
   rename_i hl
   refine⟨.string ⟨(a++b).toArray⟩,?_,d6e _,rfl⟩
   have hs:¬ ((((⟨a.toArray⟩:ByteArray).size+(⟨b.toArray⟩:ByteArray).size:Nat):Int) > IntKind.i64.max):=by
    simp[ByteArray.size,IntKind.max,IntKind.signed,IntKind.bits];omega
   simp only[binOp,Op.stringOp,if_neg hs,Sem.run_pure]
   first|(congr 2;done)|(congr 2;apply ByteArray.ext;simp)
  ·exact⟨.bool (a==b),by simp[binOp,Op.stringOp],a9z _,rfl⟩
  ·exact⟨.bool (!(a==b)),by simp[binOp,Op.stringOp],a9z _,rfl⟩
 ·cases h
end
end Go.Vm
