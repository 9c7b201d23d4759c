import GoSem.Dispatch
import Derived.KernelRfl
import Derived.Laws.AppendOwn
import Derived.Laws.Sem
import Derived.Calls
import Derived.WalkKit
import Derived.Laws.StructEq
set_option linter.unusedVariables false
set_option linter.unusedSimpArgs false
theorem om {P:Prop} (h:P:=by(omega)):P:=h
theorem kr {P:Prop} (h:P:=by(kernel_rfl)):P:=h
namespace Go.Vm
inductive D where
 |bool (b:Bool)
 |int (k:IntKind) (n:Int)
 |str (s:List UInt8)
 |sl (l:List D)
 |agg (l:List D)
 deriving Inhabited
inductive V where
 |d (x:D)
 |agg (l:List V)
 |tup (l:List V)
 |nils
 |row (id len:Nat)
 |arr (id off len:Nat)
 |ptr (id off:Nat)
 |ro (l:List D) (off:Nat)
 |fn (f:Nat) (c:List V)
 |fm (f:Nat) (a:List V)
 |nul
 |nof
 |ifc (isnil:Bool)
 |raw (x:Value)
 |nmp
 |nile
 |mp (id:Nat)
 |undef
 deriving Inhabited
inductive Ob where
 |box (c:List V)
 |frz (c:List D)
 |row (sz:Nat) (l:List D)
 |map (l:List (D×D))
 deriving Inhabited
inductive Opd where
 |t (i:Nat)
 |c (v:V)
 |g (i:Nat)
 |f (i:Nat)
 deriving Inhabited
inductive VOp where
 |mv (x:Opd)
 |pick (c a b:Opd)
 |zbox (z:List V)
 |box (x:Opd)
 |build (z:List V) (ps:List (Nat×Nat×Opd))
 |bslice (sz len:Nat) (ps:List Opd)
 |blit (sz len:Nat) (ps:List Opd)
 |brow (sz:Nat)
 |ld (n:Option Nat) (x:Opd)
 |st (n:Nat) (a x:Opd)
 |nilck (x:Opd)
 |bin (op:BinOp) (x y:Opd)
 |eqa (neg:Bool) (ks:List Nat) (x y:Opd)
 |eqb (neg:Bool) (x y:Opd)
 |isnil (neg:Bool) (x:Opd)
 |un (op:UnOp) (x:Opd)
 |conv (k:IntKind) (x:Opd)
 |mkfn (f:Nat) (caps:List Opd)
 |mkfm (f:Nat) (first:List Opd)
 |fld (off:Nat) (n:Option Nat) (x:Opd)
 |fadr (off:Nat) (x:Opd)
 |iadr (sz:Nat) (x i:Opd)
 |iadra (len sz:Nat) (x i:Opd)
 |idx (x i:Opd)
 |slcs (x:Opd) (lo hi:Option Opd)
 |slc (sz:Nat) (x:Opd) (lo hi:Option Opd)
 |ext (x:Opd) (i:Nat)
 |call (f:Nat) (args:List Opd)
 |callv (f:Opd) (args:List Opd)
 |len (str:Bool) (x:Opd)
 |convs (x:Opd)
 |app (sz bytes:Nat) (x y:Opd)
 |msl (sz bytes:Nat) (z:List V) (n:Opd)
 |mm (max:Bool) (x y:Opd)
 |abs (len:Nat) (ps:List Opd)
 |mark (x:Opd)
 |mkm
 |no
 |c2v (kk:Nat) (m k v:Opd)
 |mget (kk:Nat) (ok:Bool) (z:D) (m k:Opd)
 |ment (kk:Nat) (z:D) (m k:Opd)
 |mest (m s v:Opd)
 deriving Inhabited
structure a0a where
 dst:Option Nat
 op:VOp
 guard:Option (Nat×Bool):=none
 deriving Inhabited
inductive a0e where
 |skip
 |reg (ops:List a0a)
 |draw (m:Nat) (ops:List a0a)
 |seq (a b:a0e)
 |cond (c:Opd) (a b:a0e)
 |block (id:Nat) (b:a0e)
 |loop (keep:List Nat) (b:a0e)
 |scope (b:a0e)
 |exit (id:Nat)
 |ret
 |newrow (sz slot:Nat)
 |bindrow (sz slot off:Nat)
 |freeze (slot:Nat)
 |mkrow (sz:Nat)
 |bindto (slot off back:Nat)
 deriving Inhabited
inductive d3p where
 |tmp (t:Nat)
 |cell (t:Nat) (n:Option Nat)
 deriving Inhabited
structure VFn where
 np:Nat
 nt:Nat
 body:a0e
 res:List d3p
 keep:Bool:=false
inductive Ex where
 |nrm
 |exit (id:Nat)
 |ret
abbrev Env:=List (Nat×V)
abbrev Hp:=List Ob
def D.cells:D->List D
 | .agg l=>l
 |x=>[x]
def V.cells:V->List V
 | .d (.agg l)=>l.map V.d
 | .agg l=>l
 |x=>[x]
def V.one:V->Bool
 | .agg _| .tup _| .d (.agg _)| .undef| .raw _=>false
 |_=>true
def D.one:D->Bool
 | .agg _=>false
 |_=>true
def b9e:List V->Option (List D)
 |[]=>some []
 | .d x::r=>(b9e r).map (x:: ·)
 |_=>none
def b1g (l:List V):V:=match b9e l with|some ds=> .d (.agg ds)|none=> .agg l
def b2i (H:Hp):V->Option D
 | .d x=>some x
 | .nils=>some (.sl [])
 | .nile=>some (.sl [])
 | .row id len=>match H[id]? with|some (.row _ l)=>if l.length=len then some (.sl l) else none|_=>none
 | .arr id off len=>match H[id]? with|some (.frz c)=>if off+len<=c.length then some (.sl ((c.drop off).take len)) else none|_=>none
 |_=>none
def e7e (H:Hp):List V->Option (List D)
 |[]=>some []
 |v::r=>match b2i H v,e7e H r with|some x,some xs=>some (x::xs)|_,_=>none
def toD (H:Hp):V->Option D
 | .agg l=>(e7e H l).map .agg
 |v=>b2i H v
def toArg (H:Hp) (v:V):V:=match toD H v with|some x=> .d x|none=>v
def a1l:Env->Nat->V
 |[],_=> .undef
 |(k,v)::r,i=>if k=i then v else a1l r i
def a2e (ks:List Nat) (e:Env):Env:=ks.map fun k=>(k,a1l e k)
mutual
/-- Everything that a value leads to stands below n. -/
def V.und (n:Nat):V->Bool
 | .row id _=>decide (id < n)
 | .arr id _ _=>decide (id < n)
 | .ptr id _=>decide (id < n)
 | .mp id=>decide (id < n)
 | .agg l=>a0z n l
 | .tup l=>a0z n l
 | .fn _ l=>a0z n l
 | .fm _ l=>a0z n l
 |_=>true
def a0z (n:Nat):List V->Bool
 |[]=>true
 |v::r=>V.und n v && a0z n r
end
def cut (n:Nat) (e:Env):Env:=e.map fun(k,v)=>(k,if v.und n then v else .undef)
def d1t (op:BinOp) (k:IntKind) (x y:Int):Option Int:=
 let a:=BitVec.ofInt k.bits x
 let b:=BitVec.ofInt k.bits y
 match op with
 | .and=>some (k.wrap (a &&& b).toNat)
 | .or=>some (k.wrap (a|||b).toNat)
 | .xor=>some (k.wrap (a ^^^ b).toNat)
 | .andNot=>some (k.wrap (a &&& ~~~b).toNat)
 |_=>none
def a8q (op:BinOp):V->V->Option V
 | .d (.int k a),.d (.int k' b)=>
  match op with
  | .shl=>if 0<=b then some (.d (.int k (k.wrap (a*2 ^ (min b.toNat k.bits))))) else none
  | .shr=>if 0<=b then some (.d (.int k (a.fdiv (2 ^ (min b.toNat k.bits))))) else none
  | .add=>if k=k' then some (.d (.int k (k.wrap (a+b)))) else none
  | .sub=>if k=k' then some (.d (.int k (k.wrap (a - b)))) else none
  | .mul=>if k=k' then some (.d (.int k (k.wrap (a*b)))) else none
  | .quo=>if k=k'/\b≠0 then some (.d (.int k (k.wrap (a.tdiv b)))) else none
  | .rem=>if k=k'/\b≠0 then some (.d (.int k (a.tmod b))) else none
  | .and=>if k=k' then(d1t .and k a b).map fun n=> .d (.int k n) else none
  | .or=>if k=k' then(d1t .or k a b).map fun n=> .d (.int k n) else none
  | .xor=>if k=k' then(d1t .xor k a b).map fun n=> .d (.int k n) else none
  | .andNot=>if k=k' then(d1t .andNot k a b).map fun n=> .d (.int k n) else none
  | .eql=>if k=k' then some (.d (.bool (a==b))) else none
  | .neq=>if k=k' then some (.d (.bool (a !=b))) else none
  | .lss=>if k=k' then some (.d (.bool (decide (a < b)))) else none
  | .leq=>if k=k' then some (.d (.bool (decide (a<=b)))) else none
  | .gtr=>if k=k' then some (.d (.bool (decide (b < a)))) else none
  | .geq=>if k=k' then some (.d (.bool (decide (b<=a)))) else none
 | .d (.str a),.d (.str b)=>
  match op with
  | .add=>if a.length+b.length<=9223372036854775807 then some (.d (.str (a++b))) else none
  | .eql=>some (.d (.bool (a==b)))
  | .neq=>some (.d (.bool !(a==b)))
  |_=>none
 |_,_=>none
def eq1:D->D->Bool
 | .bool a,.bool b=>a==b
 | .int _ a,.int _ b=>a==b
 | .str a,.str b=>a==b
 |_,_=>false
def eqL:List D->List D->Bool
 |[],[]=>true
 |a::x,b::y=>eq1 a b && eqL x y
 |_,_=>false
def kindOk:List Nat->List D->List D->Bool
 |[],[],[]=>true
 |0::ks,.bool _::a,.bool _::b=>kindOk ks a b
 |1::ks,.int k _::a,.int k' _::b=>k==k' && kindOk ks a b
 |2::ks,.str _::a,.str _::b=>kindOk ks a b
 |_,_,_=>false
def unV (op:UnOp):V->Option V
 | .d (.int k n)=>match op with
   | .neg=>some (.d (.int k (k.wrap (0 - n))))
   |_=>none
 | .d (.bool b)=>match op with
   | .not=>some (.d (.bool !b))
   |_=>none
 |_=>none
def putAt:List V->Nat->List V->List V
 |cs,_,[]=>cs
 |[],_,_=>[]
 |_::cs,0,v::vs=>v::putAt cs 0 vs
 |c::cs,n+1,vs=>c::putAt cs n vs
def c2m (z:List V):List (Nat×Nat×V)->Option (List V)
 |[]=>some z
 |(off,n,v)::r=>if v.cells.length=n/\off+n<=z.length then c2m (putAt z off v.cells) r else none
def b0o (H:Hp):V->Option (List V×Nat)
 | .ptr id off=>match H[id]? with
   |some (.box c)=>some (c,off)
   |some (.frz c)=>some (c.map V.d,off)
   |_=>none
 | .ro l off=>some (l.map V.d,off)
 |_=>none
def a6u (n:Option Nat) (c:List V) (off:Nat):Option V:=
 match n with
 |none=>c[off]?
 |some n=>if off+n<=c.length then some (b1g ((c.drop off).take n)) else none
def b8m (H:Hp) (n:Option Nat) (p:V):Option V:=
 match b0o H p with
 |none=>none
 |some (c,off)=>a6u n c off
def b2b (c:List V) (off:Nat):List V->Bool
 |[.row i _]=>match c[off]? with|some (.row j _)=>Nat.beq i j|_=>false
 |_=>false
def c4w (b:Nat) (H:Hp) (n:Nat) (p x:V):Option Hp:=
 match p with
 | .ptr id off=>match H[id]? with
   |some (.box c)=>if x.cells.length=n/\off+n<=c.length/\x.cells.all V.one/\(a0z id x.cells||decide (b<=id)||b2b c off x.cells) then some (H.set id (.box (putAt c off x.cells))) else none
   |_=>none
 |_=>none
def a4k (v:V):Option Nat:=match v with| .d (.int _ n)=>if 0<=n then some n.toNat else none|_=>none
def d1h (v:V):Option Nat:=match v with
 | .d (.sl l)=>some l.length
 | .nils=>some 0
 | .nile=>some 0
 | .row _ n=>some n
 | .arr _ _ n=>some n
 |_=>none
def lsize (H:Hp) (v:V):Option (List D):=match b2i H v with|some (.sl l)=>some l|_=>none
def roomy (n bytes:Nat):Prop:=n*bytes<=140737488355328/\n<=9223372036854775807
instance (n b:Nat):Decidable (roomy n b):=inferInstanceAs (Decidable (_/\_))
def a9w:Nat->D->Bool
 |0,.bool _=>true
 |1,.int .i64 _=>true
 |2,.str _=>true
 |_,_=>false
def b3y (kk:Nat) (l:List (D×D)):Bool:=l.all fun p=>a9w kk p.1
def d2m (k:D):List (D×D)->Option D
 |[]=>none
 |(a,v)::r=>if eq1 k a then some v else d2m k r
def a6d (k:D):List (D×D)->Option Nat
 |[]=>none
 |(a,_)::r=>if eq1 k a then some 0 else(a6d k r).map (· +1)
def g1g (k v:D):List (D×D)->List (D×D)
 |[]=>[(k,v)]
 |(a,x)::r=>if eq1 k a then(a,v)::r else(a,x)::g1g k v r
def c2v (i:Nat) (v:D) (l:List (D×D)):List (D×D):=l.modify i fun p=>(p.1,v)
abbrev Orc:=Nat->List V->Hp->Option (V×Hp)
structure Cx where
 gv:Nat->List D
 fx:Nat->Option Obj:=fun _=>none
def evO (cx:Cx) (e:Env):Opd->V
 | .t i=>a1l e i
 | .c v=>v
 | .g i=> .ro (cx.gv i) 0
 | .f i=> .fn i []
def i0i (ok:Bool) (z:D) (r:Option D):V:=match ok,r with
 |true,some v=> .tup [.d v,.d (.bool true)]
 |true,none=> .tup [.d z,.d (.bool false)]
 |false,some v=> .d v
 |false,none=> .d z
def a0s (cx:Cx) (orc:Orc) (b:Nat) (e:Env) (H:Hp):VOp->Option (V×Hp)
 | .mv x=>some (evO cx e x,H)
 | .pick c a b=>match evO cx e c with
   | .d (.bool t)=>some (if t then evO cx e a else evO cx e b,H)
   |_=>none
 | .zbox z=>some (.ptr H.length 0,H++[.box z])
 | .box x=>let c:=(evO cx e x).cells;if c.all V.one then some (.ptr H.length 0,H++[.box c]) else none
 | .build z ps=>if ps.all fun p=>(evO cx e p.2.2).cells.all V.one then(c2m z (ps.map fun p=>(p.1,p.2.1,evO cx e p.2.2))).map fun c=>(b1g c,H) else none
 | .bslice sz len ps=>
  match toDs' cx e H ps with
  |some l=>if l.length=len/\l.all (fun x=>x.cells.length==sz)/\0 < sz/\len*sz<=16777216 then some (.d (.sl l),H) else none
  |none=>none
 | .blit sz len ps=>
  match toDs' cx e H ps with
  |some l=>if l.length=len/\l.all (fun x=>x.cells.length==sz)/\0 < sz/\len*sz<=16777216 then some (.row H.length len,H++[.row sz l]) else none
  |none=>none
 | .brow sz=>if 0 < sz then some (.nile,H) else none
 | .abs len ps=>
  match toDs' cx e H ps with
  |some l=>if l.length=len/\l.all D.one/\len<=16777216 then some (.arr H.length 0 len,H++[.frz l]) else none
  |none=>none
 | .mark x=>match evO cx e x with
   | .arr id off len=>match H[id]? with
     |some (.frz _)=>some (.arr id off len,H)
     |_=>none
   |_=>none
 | .ld n x=>(b8m H n (evO cx e x)).map fun v=>(v,H)
 | .st n a x=>(c4w b H n (evO cx e a) (evO cx e x)).map fun H'=>(.undef,H')
 | .nilck x=>match evO cx e x with
   | .ptr id off=>some (.ptr id off,H)
   | .fn f c=>some (.fn f c,H)
   | .fm f a=>some (.fm f a,H)
   |_=>none
 | .bin op x y=>(a8q op (evO cx e x) (evO cx e y)).map fun v=>(v,H)
 | .eqa neg ks x y=>match evO cx e x,evO cx e y with
   | .d (.agg a),.d (.agg b)=>if kindOk ks a b then some (.d (.bool (if neg then !eqL a b else eqL a b)),H) else none
   |_,_=>none
 | .eqb neg x y=>match evO cx e x,evO cx e y with
   | .d (.bool a),.d (.bool b)=>some (.d (.bool (if neg then !(a==b) else a==b)),H)
   |_,_=>none
 | .isnil neg x=>match evO cx e x with
   | .ifc b=>some (.d (.bool (if neg then !b else b)),H)
   |_=>none
 | .un op x=>(unV op (evO cx e x)).map fun v=>(v,H)
 | .conv k x=>match evO cx e x with
   | .d (.int _ n)=>some (.d (.int k (k.wrap n)),H)
   |_=>none
 | .mkfn f caps=>some (.fn f (caps.map (evO cx e)),H)
 | .mkfm f first=>some (.fm f (first.map (evO cx e)),H)
 | .fld off n x=>match evO cx e x with
   | .d (.agg c)=>(a6u n (c.map V.d) off).map fun v=>(v,H)
   | .agg c=>(a6u n c off).map fun v=>(v,H)
   |_=>none
 | .fadr off x=>match evO cx e x with
   | .ptr id o=>some (.ptr id (o+off),H)
   | .ro l o=>some (.ro l (o+off),H)
   |_=>none
 | .iadr sz x i=>match a4k (evO cx e i)with
   |none=>none
   |some n=>match evO cx e x with
    | .arr id off len=>if n < len then some (.ptr id (off+n*sz),H) else none
    |v=>match lsize H v with
     |some l=>match l[n]? with
      |some y=>if y.cells.length=sz then some (.ro y.cells 0,H) else none
      |none=>none
     |none=>none
 | .iadra len sz x i=>match a4k (evO cx e i)with
   |none=>none
   |some n=>if n < len then match evO cx e x with
    | .ptr id o=>some (.ptr id (o+n*sz),H)
    | .ro l o=>some (.ro l (o+n*sz),H)
    |_=>none else none
 | .idx x i=>match a4k (evO cx e i),evO cx e x with
   |some n,.d (.str s)=>(s[n]?).map fun b=>(.d (.int .u8 b.toNat),H)
   |_,_=>none
 | .slcs x lo hi=>match evO cx e x,bound cx e 0 lo with
   | .d (.str s),some l=>match bound cx e s.length hi with
     |some h=>if l<=h/\h<=s.length then some (.d (.str ((s.take h).drop l)),H) else none
     |none=>none
   |_,_=>none
 | .slc sz x lo hi=>match lsize H (evO cx e x),bound cx e 0 lo with
   |some s,some l=>match bound cx e s.length hi with
    |some h=>if l<=h/\h<=s.length/\(lo.isNone||s.all (fun y=>y.cells.length==sz))=true then some (.d (.sl ((s.take h).drop l)),H) else none
    |none=>none
   |_,_=>none
 | .ext x i=>match evO cx e x with
   | .tup l=>(l[i]?).map fun v=>(v,H)
   |_=>none
 | .call f args=>orc f (args.map fun x=>toArg H (evO cx e x)) H
 | .callv f args=>match evO cx e f with
   | .fn f c=>orc f (args.map (fun x=>toArg H (evO cx e x))++c) H
   | .fm f a=>orc f (a++args.map (fun x=>toArg H (evO cx e x))) H
   |_=>none
 | .len str x=>match str,evO cx e x with
   |true,.d (.str s)=>some (.d (.int .i64 s.length),H)
   |false,v=>(d1h v).map fun(n:Nat)=>(V.d (.int .i64 (n:Int)),H)
   |_,_=>none
 | .convs x=>match evO cx e x with
   | .d (.str s)=>some (.d (.str s),H)
   |_=>none
 | .app sz bytes x y=>match lsize H (evO cx e y)with
   |none=>none
   |some ys=>if ys.all (fun y=>y.cells.length==sz)/\0 < sz then
    (match evO cx e x with
      | .nile=>if ys=[] then some (.nile,H) else if roomy ys.length bytes then some (.row H.length ys.length,H++[.row sz ys]) else none
      | .nils=>if ys=[] then some (.nils,H) else if roomy ys.length bytes then some (.row H.length ys.length,H++[.row sz ys]) else none
      | .row id len=>match H[id]? with
        |some (.row sz' l)=>if sz'=sz/\l.length=len/\roomy (len+ys.length) bytes then some (.row id (len+ys.length),H.set id (.row sz (l++ys))) else none
        |_=>none
      |_=>none) else none
 | .msl sz bytes z n=>match evO cx e n with
   | .d (.int _ n)=>if 0<=n/\roomy n.toNat bytes/\z.length=1/\sz=1 then some (.arr H.length 0 n.toNat,H++[.box (List.replicate n.toNat (z.headD .undef))]) else none
   |_=>none
 | .no=>none
 | .mkm=>some (.mp H.length,H++[.map []])
 | .c2v kk m k v=>match evO cx e m,evO cx e k,toD H (evO cx e v)with
   | .mp id,.d k,some v=>match H[id]? with
     |some (.map l)=>if a9w kk k && b3y kk l then some (.undef,H.set id (.map (g1g k v l))) else none
     |_=>none
   |_,_,_=>none
 | .mget kk ok z m k=>match evO cx e m,evO cx e k with
   | .mp id,.d k=>match H[id]? with
     |some (.map l)=>if a9w kk k && b3y kk l then some (i0i ok z (d2m k l),H) else none
     |_=>none
   |_,_=>none
 | .ment kk z m k=>match evO cx e m,evO cx e k with
   | .mp id,.d k=>match H[id]? with
     |some (.map l)=>if a9w kk k && b3y kk l then(match a6d k l with
      |some i=>(l[i]?).map fun p=>(.tup [.d p.2,.d (.int .i64 i)],H)
      |none=>some (.tup [.d z,.d (.int .i64 l.length)],H.set id (.map (l++[(k,z)])))) else none
     |_=>none
   |_,_=>none
 | .mest m s v=>match evO cx e m,evO cx e s,toD H (evO cx e v)with
   | .mp id,.d (.int _ n),some v=>match H[id]? with
     |some (.map l)=>if 0<=n/\n.toNat < l.length then some (.undef,H.set id (.map (c2v n.toNat v l))) else none
     |_=>none
   |_,_,_=>none
 | .mm mx x y=>match evO cx e x,evO cx e y with
   | .d (.int k a),.d (.int k' b)=>if k=k' then some (.d (.int k (if mx then max a b else min a b)),H) else none
   |_,_=>none
where
 toDs' (cx:Cx) (e:Env) (H:Hp):List Opd->Option (List D)
  |[]=>some []
  |x::r=>match toD H (evO cx e x),toDs' cx e H r with|some y,some ys=>some (y::ys)|_,_=>none
 bound (cx:Cx) (e:Env) (dflt:Nat):Option Opd->Option Nat
  |none=>some dflt
  |some x=>a4k (evO cx e x)
structure St where
 e:Env
 h:Hp
 b:Nat
def a9r (dst:Option Nat) (v:V) (e:Env):Env:=match dst with|some d=>(d,v)::e|none=>e
def lay (dst:Option Nat) (e:Env) (b:Nat) (r:Option (V×Hp)):Option St:=r.map fun x=>⟨a9r dst x.1 e,x.2,b⟩
def grd (v:V) (b:Bool) (dst:Option Nat) (s:St) (r:Option (V×Hp)):Option St:=
 match v with
 | .d (.bool t)=>if t=b then lay dst s.e s.b r else some ⟨a9r dst (.tup []) s.e,s.h,s.b⟩
 | .tup []=>some ⟨a9r dst (.tup []) s.e,s.h,s.b⟩
 |_=>none
def a0f (cx:Cx) (orc:Orc) (o:a0a) (s:St):Option St:=
 match o.guard with
 |none=>lay o.dst s.e s.b (a0s cx orc s.b s.e s.h o.op)
 |some (g,b)=>grd (a1l s.e g) b o.dst s (a0s cx orc s.b s.e s.h o.op)
def a0u (cx:Cx) (orc:Orc):List a0a->St->Option St
 |[],s=>some s
 |o::r,s=>(a0f cx orc o s).bind (a0u cx orc r)
def a5e (n:Nat):Hp->Bool
 |[]=>true
 | .box c::l=>a0z n c && a5e n l
 |_::l=>a5e n l
open Classical in
noncomputable def grew (h h':Hp):Bool:=decide (∃ l,h'=h++l) && a5e h'.length (h'.drop h.length)
def b9t (d:Option Nat) (s:St):Bool:=match d with|some d=>(a1l s.e d).und s.h.length|none=>true
noncomputable def a2c (cx:Cx) (orc:Orc):Nat->List a0a->St->Option St
 |_,[],s=>some s
 |0,r,s=>a0u cx orc r s
 |m+1,o::r,s=>(a0f cx orc o s).bind fun s'=>if(grew s.h s'.h && b9t o.dst s')=true then a2c cx orc m r s' else none
end Go.Vm
namespace Go.Vm
structure Ann where
 keep:Nat->List Nat
 ghost:Nat->List a0e
def d6d:Value->Option V
 | .bool b=>some (.d (.bool b))
 | .int k n=>some (.d (.int k n))
 | .string s=>some (.d (.str s.data.toList))
 | .pointer none=>some .nul
 | .slice none 0 0=>some .nils
 | .nilFunc=>some .nof
 | .nilIface=>some (.ifc true)
 | .map none=>some .nmp
 |_=>none
def b6g:List Value->Option (List V)
 |[]=>some []
 |x::r=>match d6d x,b6g r with|some v,some vs=>some (v::vs)|_,_=>none
def a9q:Operand->Option Opd
 | .tmp t=>some (.t t)
 | .const (.agg c)=>(b6g c.toList).map fun l=> .c (b1g l)
 | .const v=>(d6d v).map .c
 | .global g=>some (.g g)
 | .func f=>some (.f f)
def h4l:Option Operand->Option (Option Opd)
 |none=>some none
 |some x=>(a9q x).map some
def b3n:List Operand->Option (List Opd)
 |[]=>some []
 |x::r=>match a9q x,b3n r with|some v,some vs=>some (v::vs)|_,_=>none
def zeroCells (P:Program) (t:TypeId):Option (List V):=
 match P.info? t with
 |some i=>match i.zero with|some z=>b6g z.cells.toList|none=>none
 |none=>none
def sizeT (P:Program) (t:TypeId):Option Nat:=(P.info? t).map (·.size)
def aggT (P:Program) (t:TypeId):Option Bool:=(P.underlying t).map fun
 | .struct _| .array _ _=>true
 |_=>false
def c0x (P:Program) (t:TypeId):Option (Option Nat):=
 match aggT P t with
 |some true=>(sizeT P t).map some
 |some false=>if sizeT P t=some 1 then some none else none
 |none=>none
def d0v (fs:Array Field) (P:Program):List (Nat×Operand)->Option (List (Nat×Nat×Opd))
 |[]=>some []
 |(i,x)::r=>match fs[i]?,a9q x,d0v fs P r with
  |some f,some v,some vs=>(sizeT P f.type).map fun n=>(f.offset,n,v)::vs
  |_,_,_=>none
def c3w (P:Program):Nat->List Field->Option (List Nat)
 |_,[]=>some []
 |n,f::r=>
  if f.offset=n/\f.name≠ "_" then
   match P.underlying f.type,c3w P (n+1) r with
   |some .bool,some ks=>some (0::ks)
   |some (.int _),some ks=>some (1::ks)
   |some .string,some ks=>some (2::ks)
   |_,_=>none
  else none
def d4l (P:Program) (t:TypeId):Option (List Nat):=
 match P.underlying t with
 |some (.struct fs)=>if P.stoodInHeld t=false/\P.eqGuardType P.depth t=false then c3w P 0 fs.toList else none
 |_=>none
def b1z:Nat->List (Nat×Operand)->Bool
 |_,[]=>true
 |n,(i,_)::r=>i==n && b1z (n+1) r
def e5b (P:Program) (t:TypeId):Option D:=
 match(P.info? t).bind (·.zero)with
 |some (.agg c)=>((b6g c.toList).bind b9e).map .agg
 |some v=>match d6d v with
  |some (.d x)=>some x
  |_=>none
 |none=>none
def g2c (P:Program) (t:TypeId):Option Nat:=match P.underlying t with
 |some .bool=>some 0
 |some (.int .i64)=>some 1
 |some .string=>some 2
 |_=>none
def b4q (P:Program):Op->Option VOp
 | .move x| .assign x=>(a9q x).map .mv
 | .pick c a b=>match a9q c,a9q a,a9q b with|some c,some a,some b=>some (.pick c a b)|_,_,_=>none
 | .alloc t=>(zeroCells P t).map .zbox
 | .box _ x=>(a9q x).map .box
 | .build t ps=>match P.underlying t,zeroCells P t with
   |some (.struct fs),some z=>if fs.toList.all (fun f=>(P.info? f.type).isSome) then(d0v fs P ps.toList).map fun ps=> .build z ps else none
   |_,_=>none
 | .buildSlice t len ps=>match P.underlying t with
   |some (.slice e)=>match sizeT P e,b3n (ps.toList.map (·.2))with
    |some sz,some xs=>if b1z 0 ps.toList && xs.length==len && (zeroCells P e).isSome then(match P.underlying e with
     |some (.int .u8)=>if sz=1 then some (.abs len xs) else none
     |_=>if len=0/\0 < sz then some (.brow sz) else some (.bslice sz len xs)) else none
    |_,_=>none
   |_=>none
 | .load t a=>match c0x P t,a9q a with|some n,some a=>some (.ld n a)|_,_=>none
 | .store t a x=>match sizeT P t,a9q a,a9q x with|some n,some a,some x=>some (.st n a x)|_,_,_=>none
 | .nilCheck x=>(a9q x).map .nilck
 | .binOp op t x y _=>match a9q x,a9q y with
   |some a,some b=>
    match P.underlying t with
    |some (.int _)|some .string=>some (.bin op a b)
    |some .bool=>(match op with
     | .eql=>some (.eqb false a b)
     | .neq=>some (.eqb true a b)
     |_=>none)
    |some (.struct _)=>(match op with
     | .eql=>(d4l P t).map fun ks=> .eqa false ks a b
     | .neq=>(d4l P t).map fun ks=> .eqa true ks a b
     |_=>none)
    |some (.interface _)=>(match op,y with
     | .eql,.const .nilIface=>some (.isnil false a)
     | .neq,.const .nilIface=>some (.isnil true a)
     |_,_=>none)
    |_=>none
   |_,_=>none
 | .unOp op _ x=>(a9q x).map (.un op)
 | .convert s t x=>match P.underlying s,P.underlying t,a9q x with
   |some (.int _),some (.int k),some x=>some (.conv k x)
   |some .string,some .string,some x=>some (.convs x)
   |some (.slice e),_,some x=>if s=t then(match P.underlying e with|some (.int .u8)=>some (.mark x)|_=>none) else none
   |_,_,_=>none
 | .makeFunc (.func f) first caps=>if first.isEmpty then(b3n caps.toList).map (.mkfn f) else if caps.isEmpty then(b3n first.toList).map (.mkfm f) else none
 | .makeSlice t (.tmp l) (.tmp c)=>match P.underlying t with
   |some (.slice e)=>match P.info? e,zeroCells P e with
    |some i,some z=>if l==c then some (.msl i.size i.bytes z (.t l)) else none
    |_,_=>none
   |_=>none
 | .slice t x lo hi none=>match a9q x,h4l lo,h4l hi with
   |some x,some lo,some hi=>match P.underlying t with
    |some .string=>some (.slcs x lo hi)
    |some (.slice e)=>(sizeT P e).map fun sz=> .slc sz x lo hi
    |_=>none
   |_,_,_=>none
 | .fieldAddr s x f=>match P.underlying s,a9q x with
   |some (.struct fs),some x=>match fs[f]? with
    |some f=>if sizeT P f.type=some 0 then none else if(sizeT P f.type).isNone then none else some (.fadr f.offset x)
    |none=>none
   |_,_=>none
 | .field t x f=>match P.underlying t,a9q x with
   |some (.struct fs),some x=>match fs[f]? with
    |some f=>(c0x P f.type).map fun n=> .fld f.offset n x
    |none=>none
   |_,_=>none
 | .indexAddr t x i=>match P.underlying t,a9q x,a9q i with
   |some (.slice e),some x,some i=>(sizeT P e).map fun sz=> .iadr sz x i
   |some (.array n e),some x,some i=>(sizeT P e).map fun sz=> .iadra n sz x i
   |_,_,_=>none
 | .index t x i=>match P.underlying t,a9q x,a9q i with
   |some .string,some x,some i=>some (.idx x i)
   |_,_,_=>none
 | .extract x i=>(a9q x).map fun x=> .ext x i
 | .makeMap _ none=>some .mkm
 | .mapUpdate t m k x| .insert t m k x=>match P.underlying t,a9q m,a9q k,a9q x with
   |some (.map kt _),some m,some k,some x=>(g2c P kt).map fun kk=> .c2v kk m k x
   |_,_,_,_=>none
 | .lookup t m k ok=>match P.underlying t,a9q m,a9q k with
   |some (.map kt et),some m,some k=>match g2c P kt,e5b P et with
    |some kk,some z=>some (.mget kk ok z m k)
    |_,_=>none
   |_,_,_=>none
 | .mapEntry t m k=>match P.underlying t,a9q m,a9q k with
   |some (.map kt et),some m,some k=>match g2c P kt,e5b P et with
    |some kk,some z=>some (.ment kk z m k)
    |_,_=>none
   |_,_,_=>none
 | .entryStore t m s x=>match a9q m,a9q s,a9q x with
   |some m,some s,some x=>some (.mest m s x)
   |_,_,_=>none
 | .call c=>match c.callee with
   | .value (.func f)=>(b3n c.args.toList).map (.call f)
   | .value (.tmp t)=>(b3n c.args.toList).map (.callv (.t t))
   | .builtin .len=>match c.args.toList,c.argTypes.toList with
     |[x],[t]=>match P.underlying t with
      |some .string=>(a9q x).map (.len true)
      |some (.slice _)=>(a9q x).map (.len false)
      |_=>none
     |_,_=>none
   | .builtin .append=>match c.args.toList,c.argTypes.toList with
     |[x,y],[t,u]=>match P.underlying t,P.underlying u,a9q x,a9q y with
      |some (.slice e),some (.slice _),some x,some y=>match P.info? e with
       |some i=>if(zeroCells P e).map (·.length)=some i.size/\t=u then some (.app i.size i.bytes x y) else none
       |none=>none
      |_,_,_,_=>none
     |_,_=>none
   | .builtin .max=>match c.args.toList with|[x,y]=>(match a9q x,a9q y with|some x,some y=>some (.mm true x y)|_,_=>none)|_=>none
   | .builtin .min=>match c.args.toList with|[x,y]=>(match a9q x,a9q y with|some x,some y=>some (.mm false x y)|_,_=>none)|_=>none
   |_=>none
 |_=>none
def g6h (P:Program) (o:Op):Option VOp:=some ((b4q P o).getD .no)
def i2s (ops:List Oper) (o:Oper):Bool:=match o.op,o.dst with
 | .buildSlice _ _ _,some t=>ops.any fun b=>(match b.op,b.dst with
   | .build _ ps,some u=>(ps.toList.any fun p=>match p.2 with| .tmp x=>x==t|_=>false) && ops.any fun s=>(match s.op with| .store _ _ (.tmp x)=>x==u|_=>false)
   |_,_=>false)
 |_,_=>false
def h6f:Bool->VOp->VOp
 |true,.bslice sz len ps=> .blit sz len ps
 |_,v=>v
def c2o (P:Program) (ops:Array Oper) (o:Oper):Option a0a:=
 match(g6h P o.op).map (h6f (i2s ops.toList o))with
 |none=>none
 |some v=>match o.guard with
  |none=>some ⟨o.dst,v,none⟩
  |some (j,b)=>match(ops[j]?).bind (·.dst)with
   |some s=>some ⟨o.dst,v,some (s,b)⟩
   |none=>none
def a1m (P:Program) (ops:Array Oper):List Oper->Option (List a0a)
 |[]=>some []
 |o::r=>match c2o P ops o,a1m P ops r with|some v,some vs=>some (v::vs)|_,_=>none
def a5y (ops:List Oper):List Nat:=
 go ops []
where
 go:List Oper->List Nat->List Nat
  |[],acc=>acc
  |o::r,acc=>go r (acc++[o.after.toList.foldl (fun s e=>if Region.binds .any e then s|||2 ^ e.on|||acc.getD e.on 0 else s) 0])
def VOp.a6h:VOp->List Opd
 | .mv x| .box x| .ld _ x| .nilck x| .un _ x| .conv _ x| .fld _ _ x| .fadr _ x| .ext x _| .len _ x| .convs x| .mark x=>[x]
 | .pick c a b=>[c,a,b]
 | .zbox _=>[]
 | .build _ ps=>ps.map fun p=>p.2.2
 | .bslice _ _ ps| .blit _ _ ps=>ps
 | .abs _ ps=>ps
 | .st _ a x=>[a,x]
 | .isnil _ x=>[x]
 | .mkm| .no| .brow _=>[]
 | .c2v _ x y z| .mest x y z=>[x,y,z]
 | .mget _ _ _ x y| .ment _ _ x y=>[x,y]
 | .bin _ x y| .eqa _ _ x y| .eqb _ x y| .iadr _ x y| .iadra _ _ x y| .idx x y| .app _ _ x y| .mm _ x y=>[x,y]
 | .mkfn _ c=>c
 | .mkfm _ c=>c
 | .slcs x lo hi| .slc _ x lo hi=>x::(lo.toList++hi.toList)
 | .call _ args=>args
 | .callv f args=>f::args
 | .msl _ _ _ n=>[n]
def Opd.slots:Opd->List Nat
 | .t i=>[i]
 |_=>[]
def a0a.names (o:a0a):List Nat:=o.dst.toList++o.op.a6h.flatMap Opd.slots++(match o.guard with|some (g,_)=>[g]|none=>[])
def Opd.lt (N:Nat):Opd->Bool
 | .t i=>decide (i < N)
 |_=>true
def a0a.okN (N:Nat) (o:a0a):Bool:=
 (match o.dst with|some d=>decide (d < N)|none=>true) && o.op.a6h.all (Opd.lt N) && (match o.guard with|some (g,_)=>decide (g < N)|none=>true)
def a0e.okN (N:Nat):a0e->Bool
 | .reg ops| .draw _ ops=>ops.all (a0a.okN N)
 | .seq a b=>a0e.okN N a && a0e.okN N b
 | .cond c a b=>Opd.lt N c && a0e.okN N a && a0e.okN N b
 | .block _ b| .scope b=>a0e.okN N b
 | .loop ks b=>ks.all (fun k=>decide (k < N)) && a0e.okN N b
 | .newrow _ t| .bindrow _ t _| .bindto t _ _| .freeze t=>decide (t < N)
 |_=>true
def VFn.ok (f:VFn):Bool:=f.body.okN f.nt && f.res.all (fun| .tmp t=>decide (t < f.nt)| .cell t _=>decide (t < f.nt)) && decide (f.np<=f.nt)
def g7j (ops:List Oper):Nat:=
 let b:=a5y ops
 let full (i:Nat):Bool:=b.getD i 0 % 2 ^ i==2 ^ i - 1
 let rec go:Nat->Nat
  |0=>0
  |n+1=>if full n then go n else n+1
 go ops.length
def b3l (ops:Array Oper) (vs:List a0a) (m:Nat):Bool:=
 let l:=ops.toList
 let b:=a5y l
 let w:=vs.take m
 (l.zipIdx.all fun(o,i)=>o.after.all fun e=> !Region.binds .any e||decide (e.on < i)) &&
 (l.zipIdx.all fun(_,i)=>decide (i < m)||(List.range i).all fun k=>(b.getD i 0).testBit k) &&
 (w.zipIdx.all fun(o,i)=>o.names.all fun t=>w.zipIdx.all fun(p,k)=>
   k==i||p.dst !=some t||(if k < i then(b.getD i 0).testBit k else(b.getD k 0).testBit i)) && decide (m<=vs.length)
def b1m:Code->Option Nat
 | .region id _ _=>some id
 | .seq a b=>(b1m a).orElse fun _=>b1m b
 | .cond _ a b=>(b1m a).orElse fun _=>b1m b
 | .block _ b| .loop b| .scope b=>b1m b
 |_=>none
def a8g:List a0e->a0e->a0e
 |[],c=>c
 |g::r,c=> .seq g (a8g r c)
def a0e.a7m:a0e->Bool
 | .newrow _ _| .bindrow _ _ _| .freeze _| .mkrow _| .bindto _ _ _=>true
 |_=>false
def c8l (A:Ann) (b:Code):List a0e:=(b1m b).elim [] fun i=>A.ghost (i+1000000)
def tr (P:Program) (A:Ann):Code->Option a0e
 | .skip=>some .skip
 | .label _=>some .skip
 | .region id ops draw=>match a1m P ops ops.toList with
   |none=>none
   |some vs=>if(A.ghost id).all a0e.a7m=false then none else if draw then(if b3l ops vs (g7j ops.toList) then some (a8g (A.ghost id) (.draw (g7j ops.toList) vs)) else none)
    else some (a8g (A.ghost id) (.reg vs))
 | .seq a b=>match tr P A a,tr P A b with|some x,some y=>some (.seq x y)|_,_=>none
 | .cond c a b=>match a9q c,tr P A a,tr P A b with|some c,some x,some y=>some (.cond c x y)|_,_,_=>none
 | .block id b=>(tr P A b).map (.block id)
 | .loop b=>if(c8l A b).all a0e.a7m=false then none else(tr P A b).map fun v=>a8g (c8l A b) (.loop ((b1m b).elim [] A.keep) v)
 | .scope b=>(tr P A b).map .scope
 | .exit id=>some (.exit id)
 | .ret=>some .ret
 |_=>none
def c3s (P:Program):List ResultVar->Option (List d3p)
 |[]=>some []
 | .tmp t::r=>(c3s P r).map (.tmp t:: ·)
 | .cell a t::r=>match c0x P t,c3s P r with|some n,some rs=>some (.cell a n::rs)|_,_=>none
def e0s (P:Program) (A:Ann) (keep:Bool) (fn:Func):Option VFn:=
 match fn.body with
 |none=>none
 |some c=>match tr P A c,c3s P fn.results.toList with
  |some b,some rs=>some ⟨fn.params.size+fn.nfree,fn.ntmps,b,rs,keep⟩
  |_,_=>none
end Go.Vm
namespace Go.Vm
structure Gh where
 J:Nat->Option (Nat×Nat)
 C:Nat->List Value
mutual
def a0p (C:Nat->List Value):D->List Value->Prop
 | .bool b,vs=>vs=[.bool b]
 | .int k n,vs=>vs=[.int k n]
 | .str s,vs=>vs=[.string ⟨s.toArray⟩]
 | .agg l,vs=>a1n C l vs
 | .sl l,vs=> ∃ a cap,vs=[.slice a l.length cap]/\l.length<=cap/\(l=[]\/∃ b off sz us,a=some ⟨b,off,none⟩/\0 < sz/\us <+:(C b).drop off/\a2a C sz l us)
def a1n (C:Nat->List Value):List D->List Value->Prop
 |[],vs=>vs=[]
 |d::ds,vs=> ∃ y ys,vs=y::ys/\d.one=true/\a0p C d [y]/\a1n C ds ys
def a2a (C:Nat->List Value) (sz:Nat):List D->List Value->Prop
 |[],vs=>vs=[]
 |d::ds,vs=> ∃ v1 v2,vs=v1++v2/\v1.length=sz/\a0p C d v1/\a2a C sz ds v2
end
def a3d (C:Nat->List Value):D->Value->Prop
 | .agg l,x=> ∃ cs:Array Value,x= .agg cs/\a1n C l cs.toList
 |d,x=>a0p C d [x]
theorem a7k {α:Type} {a b:List α} (h:a <+:b) (n:Nat):a.drop n <+:b.drop n:=by
 obtain⟨t,rfl⟩:=h
 rw[List.drop_append]
 exact List.prefix_append _ _
theorem a2b {α:Type} {a b:List α} (h:a <+:b) {i:Nat} {x:α} (hx:a[i]? =some x):b[i]? =some x:=by
 obtain⟨t,rfl⟩:=h
 have hi:=(List.getElem?_eq_some_iff.1 hx).1
 rw[List.getElem?_append_left hi];exact hx
section mono
variable {C C':Nat->List Value}
mutual
theorem c3e (h:∀ b,C b <+:C' b):∀ (d:D) (vs:List Value),a0p C d vs->a0p C' d vs
 | .bool _,_,r=>r
 | .int _ _,_,r=>r
 | .str _,_,r=>r
 | .agg l,vs,r=>by simp only[a0p]at r⊢;exact a3f h l vs r
 | .sl l,vs,r=>by
   simp only[a0p]at r⊢
   obtain⟨a,cap,rfl,hc,r⟩:=r
   refine⟨a,cap,rfl,hc,r.imp id ?_⟩
   rintro⟨b,off,sz,us,h1,h2,h3,h4⟩
   exact⟨b,off,sz,us,h1,h2,h3.trans (a7k (h b) off),a4w h sz l us h4⟩
theorem a3f (h:∀ b,C b <+:C' b):∀ (l:List D) (vs:List Value),a1n C l vs->a1n C' l vs
 |[],_,r=>r
 |d::ds,vs,r=>by
  simp only[a1n]at r⊢
  obtain⟨y,ys,rfl,h1,h2,h3⟩:=r
  exact⟨y,ys,rfl,h1,c3e h d [y] h2,a3f h ds ys h3⟩
theorem a4w (h:∀ b,C b <+:C' b) (sz:Nat):∀ (l:List D) (vs:List Value),a2a C sz l vs->a2a C' sz l vs
 |[],_,r=>r
 |d::ds,vs,r=>by
  simp only[a2a]at r⊢
  obtain⟨v1,v2,rfl,h1,h2,h3⟩:=r
  exact⟨v1,v2,rfl,h1,c3e h d v1 h2,a4w h sz ds v2 h3⟩
end
theorem c6p (h:∀ b,C b <+:C' b) {d:D} {x:Value} (r:a3d C d x):a3d C' d x:=by
 cases d with
 |agg l=>obtain⟨cs,rfl,r⟩:=r;exact⟨cs,rfl,a3f h _ _ r⟩
 |_=>exact c3e h _ _ r
end mono
section facts
variable {C:Nat->List Value}
theorem b1j:∀ {l:List D} {vs:List Value},a1n C l vs->vs.length=l.length
 |[],vs,r=>by simp only[a1n]at r;subst r;rfl
 |d::ds,vs,r=>by
  simp only[a1n]at r
  obtain⟨y,ys,rfl,_,_,h3⟩:=r
  simp[b1j h3]
theorem a8c {d:D} {vs:List Value} (r:a0p C d vs):vs.length=d.cells.length:=by
 cases d with
 |bool b=>simp only[a0p]at r;subst r;rfl
 |int k n=>simp only[a0p]at r;subst r;rfl
 |str s=>simp only[a0p]at r;subst r;rfl
 |agg l=>simp only[a0p]at r;exact b1j r
 |sl l=>simp only[a0p]at r;obtain⟨a,cap,rfl,_⟩:=r;rfl
theorem c7c {d:D} {y:Value} (hd:d.one=true) (r:a0p C d [y]):y.oneCell'=true:=by
 cases d with
 |bool b=>simp only[a0p]at r;cases r;rfl
 |int k n=>simp only[a0p]at r;cases r;rfl
 |str s=>simp only[a0p]at r;cases r;rfl
 |agg l=>cases hd
 |sl l=>simp only[a0p]at r;obtain⟨a,cap,h,_⟩:=r;cases h;rfl
theorem d7l:∀ {l:List D} {vs:List Value},a1n C l vs->∀ v∈vs,v.oneCell'=true
 |[],vs,r,v,hv=>by simp only[a1n]at r;subst r;cases hv
 |d::ds,vs,r,v,hv=>by
  simp only[a1n]at r
  obtain⟨y,ys,rfl,h1,h2,h3⟩:=r
  cases hv with
  |head=>exact c7c h1 h2
  |tail _ hm=>exact d7l h3 v hm
theorem e6d {d:D} {vs:List Value} (r:a0p C d vs):∀ v∈vs,v.oneCell'=true:=by
 cases d with
 |agg l=>simp only[a0p]at r;exact d7l r
 |_=>
  intro v hv
  have hl:=a8c r
  simp only[D.cells,List.length_cons,List.length_nil]at hl
  obtain⟨y,rfl⟩:=List.length_eq_one_iff.1 hl
  simp only[List.mem_singleton]at hv
  subst hv
  exact c7c rfl r
theorem a3l {sz:Nat}:∀ {l:List D} {vs:List Value},a2a C sz l vs->vs.length=l.length*sz
 |[],vs,r=>by simp only[a2a]at r;subst r;simp
 |d::ds,vs,r=>by
  simp only[a2a]at r
  obtain⟨v1,v2,rfl,h1,_,h3⟩:=r
  simp[a3l h3,h1,Nat.add_mul,Nat.add_comm]
theorem d1c {sz:Nat}:∀ {l:List D} {vs:List Value},a2a C sz l vs->∀ v∈vs,v.oneCell'=true
 |[],vs,r,v,hv=>by simp only[a2a]at r;subst r;cases hv
 |d::ds,vs,r,v,hv=>by
  simp only[a2a]at r
  obtain⟨v1,v2,rfl,h1,h2,h3⟩:=r
  rcases List.mem_append.1 hv with hv|hv
  ·exact e6d h2 v hv
  ·exact d1c h3 v hv
theorem b4y {sz:Nat}:∀ {l l':List D} {vs vs':List Value},a2a C sz l vs->a2a C sz l' vs'->a2a C sz (l++l') (vs++vs')
 |[],l',vs,vs',r,r'=>by simp only[a2a]at r;subst r;exact r'
 |d::ds,l',vs,vs',r,r'=>by
  simp only[a2a]at r
  obtain⟨v1,v2,rfl,h1,h2,h3⟩:=r
  simp only[List.cons_append,a2a]
  exact⟨v1,v2++vs',by simp,h1,h2,b4y h3 r'⟩
theorem b6e {sz:Nat}:∀ {l:List D} {vs:List Value} {i:Nat} {d:D},a2a C sz l vs->l[i]? =some d->a0p C d ((vs.drop (i*sz)).take sz)
 |[],vs,i,d,r,h=>by simp at h
 |d::ds,vs,0,d',r,h=>by
  simp only[a2a]at r
  obtain⟨v1,v2,rfl,h1,h2,h3⟩:=r
  simp only[List.getElem?_cons_zero,Option.some.injEq]at h
  subst h
  simpa [<-h1] using h2
 |d::ds,vs,i+1,d',r,h=>by
  simp only[a2a]at r
  obtain⟨v1,v2,rfl,h1,h2,h3⟩:=r
  simp only[List.getElem?_cons_succ]at h
  have:=b6e h3 h
  rw[Nat.add_mul,Nat.one_mul,Nat.add_comm,<-h1,List.drop_length_add_append,h1]
  exact this
theorem d0u {sz:Nat}:∀ {l:List D} {vs:List Value} (k:Nat),a2a C sz l vs->a2a C sz (l.take k) (vs.take (k*sz))
 |[],vs,k,r=>by simp only[a2a]at r;subst r;simp[a2a]
 |d::ds,vs,0,r=>by simp[a2a]
 |d::ds,vs,k+1,r=>by
  simp only[a2a]at r
  obtain⟨v1,v2,rfl,h1,h2,h3⟩:=r
  simp only[List.take_succ_cons,a2a]
  refine⟨v1,v2.take (k*sz),?_,h1,h2,d0u k h3⟩
  rw[Nat.add_mul,Nat.one_mul,Nat.add_comm,<-h1,List.take_length_add_append]
theorem c9w {sz:Nat}:∀ {l:List D} {vs:List Value} (k:Nat),a2a C sz l vs->a2a C sz (l.drop k) (vs.drop (k*sz))
 |[],vs,k,r=>by simp only[a2a]at r;subst r;simp[a2a]
 |d::ds,vs,0,r=>by simpa using r
 |d::ds,vs,k+1,r=>by
  simp only[a2a]at r
  obtain⟨v1,v2,rfl,h1,h2,h3⟩:=r
  simp only[List.drop_succ_cons]
  rw[Nat.add_mul,Nat.one_mul,Nat.add_comm,<-h1,List.drop_length_add_append,h1]
  exact c9w k h3
theorem d0t:∀ {l:List D} {vs:List Value} (k:Nat),a1n C l vs->a1n C (l.take k) (vs.take k)
 |[],vs,k,r=>by simp only[a1n]at r;subst r;simp[a1n]
 |d::ds,vs,0,r=>by simp[a1n]
 |d::ds,vs,k+1,r=>by
  simp only[a1n]at r
  obtain⟨y,ys,rfl,h1,h2,h3⟩:=r
  simp only[List.take_succ_cons,a1n]
  exact⟨y,ys.take k,rfl,h1,h2,d0t k h3⟩
theorem d0i:∀ {l:List D} {vs:List Value} (k:Nat),a1n C l vs->a1n C (l.drop k) (vs.drop k)
 |[],vs,k,r=>by simp only[a1n]at r;subst r;simp[a1n]
 |d::ds,vs,0,r=>by simpa using r
 |d::ds,vs,k+1,r=>by
  simp only[a1n]at r
  obtain⟨y,ys,rfl,h1,h2,h3⟩:=r
  simp only[List.drop_succ_cons]
  exact d0i k h3
theorem e1w:∀ {l:List D} {vs:List Value},a1n C l vs->a2a C 1 l vs
 |[],vs,r=>r
 |d::ds,vs,r=>by
  simp only[a1n]at r
  obtain⟨y,ys,rfl,h1,h2,h3⟩:=r
  simp only[a2a]
  exact⟨[y],ys,rfl,rfl,h2,e1w h3⟩
theorem e5o {d:D} {x:Value} (r:a3d C d x):a0p C d x.cells.toList:=by
 cases d with
 |agg l=>obtain⟨cs,rfl,r⟩:=r;simpa only[a0p,Value.cells] using r
 |bool b=>simp only[a3d,a0p]at r;cases r;simp[a0p,Value.cells]
 |int k n=>simp only[a3d,a0p]at r;cases r;simp[a0p,Value.cells]
 |str s=>simp only[a3d,a0p]at r;cases r;simp[a0p,Value.cells]
 |sl l=>simp only[a3d]at r;have:=r;simp only[a0p]at r;obtain⟨a,cap,h,_⟩:=r;cases h;exact this
theorem d9y {d:D} {y:Value} (hd:d.one=true) (r:a0p C d [y]):a3d C d y:=by
 cases d with
 |agg l=>cases hd
 |_=>exact r
theorem b8v {d:D} {vs:List Value} (r:a0p C d vs):a1n C d.cells vs:=by
 cases d with
 |agg l=>simpa only[D.cells,a0p] using r
 |bool b=>simp only[D.cells,a1n];simp only[a0p]at r;subst r;exact⟨_,_,rfl,rfl,rfl,rfl⟩
 |int k n=>simp only[D.cells,a1n];simp only[a0p]at r;subst r;exact⟨_,_,rfl,rfl,rfl,rfl⟩
 |str s=>simp only[D.cells,a1n];simp only[a0p]at r;subst r;exact⟨_,_,rfl,rfl,rfl,rfl⟩
 |sl l=>
  simp only[D.cells,a1n]
  have r':=r
  simp only[a0p]at r
  obtain⟨a,cap,rfl,_⟩:=r
  exact⟨_,_,rfl,rfl,r',rfl⟩
end facts
mutual
/-- A value of the model that a value of the machine stands for. -/
def Rep (g:Gh) (H:Hp):V->Value->Prop
 | .d x,v=>a3d g.C x v
 | .agg l,v=> ∃ cs:Array Value,v= .agg cs/\a1p g H l cs.toList
 | .tup l,v=> ∃ cs:Array Value,v= .tuple cs/\a0w g H l cs.toList
 | .nils,v=>v= .slice none 0 0
 | .row id len,v=> ∃ a cap sz l,v= .slice a len cap/\H[id]? =some (.row sz l)/\len<=l.length/\(len=l.length->(len=0/\a=none/\cap=0)\/∃ b,g.J id=some (b,cap)/\a=some ⟨b,0,none⟩)
 | .arr id off len,v=>(∃ o,H[id]? =some o/\∀ sz l,o≠ .row sz l)/\∃ b c cap,g.J id=some (b,c)/\v= .slice (some ⟨b,off,none⟩) len cap/\len<=cap
 | .ptr id off,v=>(∃ o,H[id]? =some o/\∀ sz l,o≠ .row sz l)/\∃ b c,g.J id=some (b,c)/\v= .pointer (some ⟨b,off,none⟩)
 | .mp id,v=>(∃ o,H[id]? =some o/\∀ sz l,o≠ .row sz l)/\∃ b c,g.J id=some (b,c)/\v= .map (some b)
 | .ro l off,v=> ∃ b o vs,v= .pointer (some ⟨b,o+off,none⟩)/\vs <+:(g.C b).drop o/\a1n g.C l vs
 | .fn f c,v=> ∃ cs:Array Value,v= .func (.func f) #[] cs/\a0w g H c cs.toList
 | .fm f c,v=> ∃ cs:Array Value,v= .func (.func f) cs #[]/\a0w g H c cs.toList
 | .nul,v=>v= .pointer none
 | .nof,v=>v= .nilFunc
 | .ifc b,v=>(b=true/\v= .nilIface)\/(b=false/\∃ t y,v= .iface t y)
 | .raw y,v=>v=y
 | .nmp,v=>v= .map none
 | .nile,v=> ∃ a:Option Addr,v= .slice a 0 0/\∀ q,a=some q->q.spot=none
 | .undef,_=>True
/-- Cells. -/
def a1p (g:Gh) (H:Hp):List V->List Value->Prop
 |[],vs=>vs=[]
 |x::xs,vs=> ∃ y ys,vs=y::ys/\x.one=true/\Rep g H x y/\a1p g H xs ys
/-- Components. -/
def a0w (g:Gh) (H:Hp):List V->List Value->Prop
 |[],vs=>vs=[]
 |x::xs,vs=> ∃ y ys,vs=y::ys/\Rep g H x y/\a0w g H xs ys
end
structure Keep (n:Nat) (g:Gh) (H:Hp) (g':Gh) (H':Hp):Prop where
 C:∀ b,g.C b <+:g'.C b
 obj:∀ i o,i < n->H[i]? =some o->(∀ sz l,o≠ .row sz l)->g'.J i=g.J i/\∃ o',H'[i]? =some o'/\∀ sz l,o'≠ .row sz l
 row:∀ i sz l,i < n->H[i]? =some (.row sz l)->∃ l',H'[i]? =some (.row sz l')/\l <+:l'/\(l'.length=l.length->g'.J i=g.J i)
theorem Keep.refl (n:Nat) (g:Gh) (H:Hp):Keep n g H g H:=
 ⟨fun _=>List.prefix_refl _,fun _ o _ ho h=>⟨rfl,o,ho,h⟩,fun _ _ l _ ho=>⟨l,ho,List.prefix_refl _,fun _=>rfl⟩⟩
theorem Keep.trans {n m:Nat} {g g1 g2:Gh} {H H1 H2:Hp} (h:Keep n g H g1 H1) (k:Keep m g1 H1 g2 H2) (hm:n<=m):Keep n g H g2 H2:=by
 refine⟨fun b=>(h.C b).trans (k.C b),fun i o hi ho hr=>?_,fun i sz l hi ho=>?_⟩
 ·obtain⟨e1,o',h1,h2⟩:=h.obj i o hi ho hr
  obtain⟨e2,o'',h3,h4⟩:=k.obj i o' om h1 h2
  exact⟨e2.trans e1,o'',h3,h4⟩
 ·obtain⟨l',h1,h2,h3⟩:=h.row i sz l hi ho
  obtain⟨l'',h4,h5,h6⟩:=k.row i sz l' om h1
  refine⟨l'',h4,h2.trans h5,fun he=>?_⟩
  have a:=h2.length_le
  have b:=h5.length_le
  rw[h6 om,h3 om]
structure c5k (n:Nat) (g:Gh) (H:Hp) (g':Gh) (H':Hp):Prop where
 C:∀ b,g.C b <+:g'.C b
 obj:∀ i o,i < n->H[i]? =some o->(∀ sz l,o≠ .row sz l)->(∀ p,g.J i=some p->g'.J i=some p)/\∃ o',H'[i]? =some o'/\∀ sz l,o'≠ .row sz l
 row:∀ i sz l,i < n->H[i]? =some (.row sz l)->∃ l',H'[i]? =some (.row sz l')/\l <+:l'/\(l'.length=l.length->∀ p,g.J i=some p->g'.J i=some p)
theorem Keep.w {n:Nat} {g g':Gh} {H H':Hp} (k:Keep n g H g' H'):c5k n g H g' H':=
 ⟨k.C,fun i o hi ho hr=>⟨fun _ hp=>(k.obj i o hi ho hr).1.trans hp,(k.obj i o hi ho hr).2⟩,fun i sz l hi ho=>by
   obtain⟨l',h1,h2,h3⟩:=k.row i sz l hi ho
   exact⟨l',h1,h2,fun he _ hp=>(h3 he).trans hp⟩⟩
section
variable {n:Nat} {g g':Gh} {H H':Hp}
mutual
theorem a2n (k:c5k n g H g' H'):∀ (v:V) (x:Value),v.und n=true->Rep g H v x->Rep g' H' v x
 | .d d,x,_,r=>by simp only[Rep]at r⊢;exact c6p k.C r
 | .agg l,x,u,r=>by
   simp only[Rep]at r⊢
   obtain⟨cs,rfl,r⟩:=r
   exact⟨cs,rfl,a7n k l _ (by simpa only[V.und] using u) r⟩
 | .tup l,x,u,r=>by
   simp only[Rep]at r⊢
   obtain⟨cs,rfl,r⟩:=r
   exact⟨cs,rfl,a4s k l _ (by simpa only[V.und] using u) r⟩
 | .nils,x,_,r=>by simpa only[Rep] using r
 | .row id len,x,u,r=>by
   simp only[Rep]at r⊢
   obtain⟨a,cap,sz,l,rfl,ho,r1,r2⟩:=r
   simp only[V.und,decide_eq_true_eq]at u
   obtain⟨l',h1,h2,h3⟩:=k.row id sz l u ho
   have hp:=h2.length_le
   refine⟨a,cap,sz,l',rfl,h1,om,fun he=>?_⟩
   have e:=h3 om
   rcases r2 om with q|⟨b,q1,q2⟩
   ·exact .inl q
   ·exact .inr ⟨b,e _ q1,q2⟩
 | .arr id off len,x,u,r=>by
   simp only[Rep]at r⊢
   obtain⟨⟨o,ho,hr⟩,b,c,cap,h1,rfl,hlc⟩:=r
   simp only[V.und,decide_eq_true_eq]at u
   obtain⟨e,q⟩:=k.obj id o u ho hr
   exact⟨q,b,c,cap,e _ h1,rfl,hlc⟩
 | .ptr id off,x,u,r=>by
   simp only[Rep]at r⊢
   obtain⟨⟨o,ho,hr⟩,b,c,h1,rfl⟩:=r
   simp only[V.und,decide_eq_true_eq]at u
   obtain⟨e,q⟩:=k.obj id o u ho hr
   exact⟨q,b,c,e _ h1,rfl⟩
 | .mp id,x,u,r=>by
   simp only[Rep]at r⊢
   obtain⟨⟨o,ho,hr⟩,b,c,h1,rfl⟩:=r
   simp only[V.und,decide_eq_true_eq]at u
   obtain⟨e,q⟩:=k.obj id o u ho hr
   exact⟨q,b,c,e _ h1,rfl⟩
 | .ro l off,x,_,r=>by
   simp only[Rep]at r⊢
   obtain⟨b,o,vs,rfl,h1,h2⟩:=r
   exact⟨b,o,vs,rfl,h1.trans (a7k (k.C b) o),a3f k.C _ _ h2⟩
 | .fn f c,x,u,r=>by
   simp only[Rep]at r⊢
   obtain⟨cs,rfl,r⟩:=r
   exact⟨cs,rfl,a4s k c _ (by simpa only[V.und] using u) r⟩
 | .fm f c,x,u,r=>by
   simp only[Rep]at r⊢
   obtain⟨cs,rfl,r⟩:=r
   exact⟨cs,rfl,a4s k c _ (by simpa only[V.und] using u) r⟩
 | .nul,x,_,r=>by simpa only[Rep] using r
 | .nof,x,_,r=>by simpa only[Rep] using r
 | .ifc _,x,_,r=>by simpa only[Rep] using r
 | .raw _,x,_,r=>by simpa only[Rep] using r
 | .nmp,x,_,r=>by simpa only[Rep] using r
 | .nile,x,_,r=>by simpa only[Rep] using r
 | .undef,x,_,r=>by simp only[Rep]
theorem a7n (k:c5k n g H g' H'):∀ (l:List V) (vs:List Value),a0z n l=true->a1p g H l vs->a1p g' H' l vs
 |[],_,_,r=>r
 |v::l,vs,u,r=>by
  simp only[a1p]at r⊢
  simp only[a0z,Bool.and_eq_true]at u
  obtain⟨y,ys,rfl,h1,h2,h3⟩:=r
  exact⟨y,ys,rfl,h1,a2n k v y u.1 h2,a7n k l ys u.2 h3⟩
theorem a4s (k:c5k n g H g' H'):∀ (l:List V) (vs:List Value),a0z n l=true->a0w g H l vs->a0w g' H' l vs
 |[],_,_,r=>r
 |v::l,vs,u,r=>by
  simp only[a0w]at r⊢
  simp only[a0z,Bool.and_eq_true]at u
  obtain⟨y,ys,rfl,h2,h3⟩:=r
  exact⟨y,ys,rfl,a2n k v y u.1 h2,a4s k l ys u.2 h3⟩
end
end
end Go.Vm
namespace Go.Vm
inductive a0v where
 |code (f:VFn)
 |prim (F:List V->Hp->Option (V×Hp))
structure Pg extends Cx where
 tbl:Nat->Option a0v
abbrev Lp:=List Nat->a0e->St->Option (Ex×St)
def sq (r:Option (Ex×St)) (k:St->Option (Ex×St)):Option (Ex×St):=
 match r with
 |some (.nrm,s)=>k s
 |some (.exit i,s)=>some (.exit i,s)
 |some (.ret,s)=>some (.ret,s)
 |none=>none
structure d8y (cx:Cx) (orc:Orc) (m:Nat) (ops:List a0a) (s:St) (d:Nat) (od:a0a) (τ:Nat->St) (val:Nat->V):Prop where
 lt:d < m
 le:m<=ops.length
 odx:ops[d]? =some od
 zero:τ 0=s
 step:∀ i o,i < m->ops[i]? =some o->a0f cx orc o (τ i)=some (τ (i+1))/\(τ (i+1)).e=a9r o.dst (val i) (τ i).e
 quiet:∀ i o,i < m->ops[i]? =some o->i≠d->(τ (i+1)).h=(τ i).h
 ahead:∀ i o,i < d->ops[i]? =some o->a0f cx orc o ⟨(τ i).e,(τ (d+1)).h,s.b⟩=some ⟨(τ (i+1)).e,(τ (d+1)).h,s.b⟩
 behind:∀ i o,d < i->i < m->ops[i]? =some o->(∃ t,od.dst=some t/\t∈o.names)\/a0f cx orc o ⟨(τ i).e,s.h,s.b⟩=some ⟨(τ (i+1)).e,s.h,s.b⟩
structure e3v (cx:Cx) (orc:Orc) (m:Nat) (ops:List a0a) (s:St) (d a:Nat) (ε:Nat->Env) (val:Nat->V) (Hs:Bool->Bool->Hp):Prop where
 ld:d < m
 la:a < m
 ne:d≠a
 le:m<=ops.length
 zero:ε 0=s.e
 h0:Hs false false=s.h
 env:∀ i o,i < m->ops[i]? =some o->ε (i+1)=a9r o.dst (val i) (ε i)
 run:∀ i o x y,i < m->ops[i]? =some o->(i=d->x=false)->(i=a->y=false)->a0f cx orc o ⟨ε i,Hs x y,s.b⟩=some ⟨ε (i+1),Hs (x||decide (i=d)) (y||decide (i=a)),s.b⟩
def b8x:VOp->Bool
 | .mv _| .pick .. | .build .. | .ld .. | .bin .. | .un .. | .conv .. | .fld .. | .fadr .. | .ext .. | .len .. | .mkfn .. | .mkfm .. | .eqa .. | .eqb .. | .convs .. | .isnil .. | .bslice .. | .idx .. | .iadra .. | .iadr .. | .slcs .. | .slc .. | .mget .. | .mm .. | .nilck .. =>true
 |_=>false
theorem d7v {cx:Cx} {orc:Orc} {b:Nat} {e:Env} {H:Hp} {o:VOp} {v:V} {H':Hp} (hp:b8x o=true) (h:a0s cx orc b e H o=some (v,H')):H'=H:=by
 cases o<;>first|(cases hp;done)|skip
 case len str x=>
  cases str<;>simp only[a0s]at h
  ·cases hl:d1h (evO cx e x)with
   |none=>rw[hl]at h;cases h
   |some n=>rw[hl]at h;cases h;rfl
  ·split at h
   ·cases h;rfl
   ·rename_i hh;cases hh
   ·cases h
 all_goals
  simp only[a0s]at h
  repeat' split at h
  all_goals first
    |(cases h;done)
    |(simp only[Option.some.injEq,Prod.mk.injEq]at h;exact h.2.symm)
    |(simp only[Option.map_eq_some_iff,Prod.mk.injEq]at h;obtain⟨_,_,_,h⟩:=h;exact h.symm)
def e2l (a:Nat) (ops:List a0a):Bool:=((ops.take a).all fun o=>b8x o.op) && match ops.drop a with
  |⟨some k1,.zbox _,none⟩::⟨some k2,.zbox _,none⟩::⟨none,.st _ (.t p) (.t v),none⟩::_=>p==k1 && k1 !=k2 && v !=k1 && v !=k2
  |_=>false
def d1f (cx:Cx) (orc:Orc) (m:Nat) (ops:List a0a) (s:St):Prop:=(∃ d od τ val,d8y cx orc m ops s d od τ val)\/(∃ d a ε val Hs,e3v cx orc m ops s d a ε val Hs)\/∃ a,m=a+3/\e2l a ops=true/\∃ r,a2c cx orc (a+2) ops s=some r
open Classical in
noncomputable def b3o (cx:Cx) (orc:Orc) (m:Nat) (ops:List a0a) (s:St):Option St:=
 if(∃ r,a2c cx orc m ops s=some r)\/d1f cx orc m ops s then a0u cx orc ops s else none
theorem b2x {cx:Cx} {orc:Orc}:∀ {m:Nat} {ops:List a0a} {s r:St},a2c cx orc m ops s=some r->a0u cx orc ops s=some r
 |0,[],_,_,h=>h
 |_+1,[],_,_,h=>h
 |0,_::_,_,_,h=>h
 |m+1,o::r,s,q,h=>by
  simp only[a2c]at h
  simp only[a0u]
  cases hx:a0f cx orc o s with
  |none=>rw[hx]at h;cases h
  |some s1=>
   rw[hx]at h
   simp only[Option.bind_some]at h⊢
   split at h
   ·exact b2x h
   ·cases h
theorem f9h {cx:Cx} {orc:Orc} {m:Nat} {ops:List a0a} {s r:St} (h:a2c cx orc m ops s=some r):b3o cx orc m ops s=some r:=by
 unfold b3o;rw[if_pos (.inl ⟨r,h⟩)];exact b2x h
theorem a3v {cx:Cx} {orc:Orc} {m:Nat} {ops:List a0a} {s r:St}:b3o cx orc m ops s=some r↔a0u cx orc ops s=some r/\((∃ r,a2c cx orc m ops s=some r)\/d1f cx orc m ops s):=by
 unfold b3o
 constructor
 ·intro h
  split at h
  ·rename_i c;exact⟨h,c⟩
  ·cases h
 ·rintro⟨h,c⟩;rw[if_pos c];exact h
noncomputable def evC (cx:Cx) (orc:Orc) (lp:Lp):a0e->St->Option (Ex×St)
 | .skip,s=>some (.nrm,s)
 | .reg ops,s=>(a0u cx orc ops s).map fun s=>(.nrm,s)
 | .draw m ops,s=>(b3o cx orc m ops s).map fun s=>(.nrm,s)
 | .seq a b,s=>sq (evC cx orc lp a s) fun s'=>evC cx orc lp b s'
 | .cond c a b,s=>match evO cx s.e c with
   | .d (.bool t)=>if t then evC cx orc lp a s else evC cx orc lp b s
   |_=>none
 | .block id b,s=>match evC cx orc lp b s with
   |some (.exit i,s')=>if i=id then some (.nrm,s') else some (.exit i,s')
   |r=>r
 | .scope b,s=>evC cx orc lp b s
 | .loop ks b,s=>match evC cx orc lp b ⟨a2e ks s.e,s.h,s.h.length⟩with
   |some (.nrm,s')=>lp ks b ⟨cut s.h.length (a2e ks s'.e),s'.h.take s.h.length,s.b⟩
   |some (x,s')=>some (x,⟨s'.e,s'.h,s.b⟩)
   |none=>none
 | .exit i,s=>some (.exit i,s)
 | .ret,s=>some (.ret,s)
 | .newrow sz t,s=>match a1l s.e t with
   | .nils=>if 0 < sz then some (.nrm,⟨(t,.row s.h.length 0)::s.e,s.h++[.row sz []],s.b⟩) else none
   |_=>none
 | .bindrow sz t off,s=>match a1l s.e t with
   | .ptr id o=>match s.h[id]? with
     |some (.box c)=>match c[o+off]? with
      |some .nils=>if s.b<=id/\0 < sz then some (.nrm,⟨s.e,s.h.set id (.box (c.set (o+off) (.row s.h.length 0)))++[.row sz []],s.b⟩) else none
      |_=>none
     |_=>none
   |_=>none
 | .mkrow sz,s=>if 0 < sz then some (.nrm,⟨s.e,s.h++[.row sz []],s.b⟩) else none
 | .bindto t off k,s=>match a1l s.e t with
   | .ptr id o=>match s.h[id]? with
     |some (.box c)=>match c[o+off]?,s.h[id - k]? with
      |some .nils,some (.row _ [])=>if 0 < k/\k<=id/\s.b<=id - k then some (.nrm,⟨s.e,s.h.set id (.box (c.set (o+off) (.row (id - k) 0))),s.b⟩) else none
      |_,_=>none
     |_=>none
   |_=>none
 | .freeze t,s=>match a1l s.e t with
   | .arr id _ _=>match s.h[id]? with
     |some (.box c)=>match b9e c with
      |some ds=>some (.nrm,⟨s.e,s.h.set id (.frz ds),s.b⟩)
      |none=>none
     |_=>none
   | .row id len=>match s.h[id]? with
     |some (.row _ l)=>if l.length=len then some (.nrm,⟨(t,.d (.sl l))::s.e,s.h,s.b⟩) else none
     |_=>none
   |_=>none
def e8o (e:Env) (h:Hp):d3p->Option V
 | .tmp t=>some (a1l e t)
 | .cell t n=>b8m h n (a1l e t)
def a9n (e:Env) (h:Hp):List d3p->Option (List V)
 |[]=>some []
 |r::rs=>match e8o e h r,a9n e h rs with|some v,some vs=>some (v::vs)|_,_=>none
def oneOf:List V->V
 |[v]=>v
 |vs=> .tup vs
def a1d (args:List V):Env:=(List.range args.length).map fun i=>(i,args.getD i .undef)
def leave (vf:VFn) (h0:Nat) (s:St):Option (V×Hp):=
 match a9n s.e s.h vf.res with
 |none=>none
 |some vs=>
  if vf.keep then some (oneOf vs,s.h)
  else let ds:=vs.map (toArg s.h);if a0z h0 ds then some (oneOf ds,s.h.take h0) else none
def bare (t:Bool) (h:Hp) (k:Hp->Option (V×Hp)):Option (V×Hp):=
 match t with
 |true=>(k []).map fun r=>(r.1,h)
 |false=>k h
noncomputable def c3u (pg:Pg) (orc:Orc) (lp:Lp) (f:Nat) (args:List V) (h:Hp):Option (V×Hp):=
 match pg.tbl f with
 |none=>none
 |some (.prim F)=>F args h
 |some (.code vf)=>if args.length=vf.np then
     bare (a0z 0 args && !vf.keep) h fun h=>match evC pg.toCx orc lp vf.body ⟨a1d args,h,h.length⟩with
     |some (.nrm,s)|some (.ret,s)=>leave vf h.length s
     |_=>none
   else none
noncomputable def atN (pg:Pg):Nat->Orc×Lp
 |0=>(fun _ _ _=>none,fun _ _ _=>none)
 |n+1=>(c3u pg (atN pg n).1 (atN pg n).2,fun ks b s=>evC pg.toCx (atN pg n).1 (atN pg n).2 (.loop ks b) s)
noncomputable def b2e (pg:Pg) (n:Nat):Orc:=(atN pg n).1
noncomputable def c5a (pg:Pg) (n:Nat):Lp:=(atN pg n).2
theorem b1c (pg:Pg) (f:Nat) (a:List V) (h:Hp):b2e pg 0 f a h=none:=rfl
theorem a6m (pg:Pg) (n f:Nat) (a:List V) (h:Hp):b2e pg (n+1) f a h=c3u pg (b2e pg n) (c5a pg n) f a h:=rfl
theorem b2u (pg:Pg) (k:List Nat) (b:a0e) (s:St):c5a pg 0 k b s=none:=rfl
theorem b0l (pg:Pg) (n:Nat) (k:List Nat) (b:a0e) (s:St):c5a pg (n+1) k b s=evC pg.toCx (b2e pg n) (c5a pg n) (.loop k b) s:=rfl
end Go.Vm
namespace Go.Vm
def OLe (o o':Orc):Prop:=∀ f a h r,o f a h=some r->o' f a h=some r
def LLe (l l':Lp):Prop:=∀ k b s r,l k b s=some r->l' k b s=some r
theorem d6s {cx:Cx} {o o':Orc} (ho:OLe o o') {b:Nat} {e:Env} {H:Hp} {op:VOp} {r:V×Hp} (h:a0s cx o b e H op=some r):a0s cx o' b e H op=some r:=by
 cases op with
 |call f args=>exact ho _ _ _ _ h
 |callv f args=>
  simp only[a0s]at h⊢
  split at h
  ·exact ho _ _ _ _ h
  ·exact ho _ _ _ _ h
  ·cases h
 |_=>exact h
theorem g0i {d:Option Nat} {e:Env} {b:Nat} {x y:Option (V×Hp)} {r:St} (h:∀ q,x=some q->y=some q) (hr:lay d e b x=some r):lay d e b y=some r:=by
 cases x with
 |none=>cases hr
 |some q=>rw[h q rfl];exact hr
theorem g2i {v:V} {b:Bool} {d:Option Nat} {s:St} {x y:Option (V×Hp)} {r:St} (h:∀ q,x=some q->y=some q) (hr:grd v b d s x=some r):grd v b d s y=some r:=by
 unfold grd at hr⊢
 split at hr
 ·split at hr
  ·rename_i hb;exact(if_pos hb).trans (g0i h hr)
  ·rename_i hb;exact(if_neg hb).trans hr
 ·exact hr
 ·cases hr
theorem a1e {cx:Cx} {o o':Orc} (ho:OLe o o') {x:a0a} {s r:St} (h:a0f cx o x s=some r):a0f cx o' x s=some r:=by
 unfold a0f at h⊢
 split at h
 ·exact g0i (fun q hq=>d6s ho hq) h
 ·exact g2i (fun q hq=>d6s ho hq) h
theorem a7s {cx:Cx} {o o':Orc} (ho:OLe o o'):∀ {ops:List a0a} {s r:St},a0u cx o ops s=some r->a0u cx o' ops s=some r
 |[],_,_,h=>h
 |x::xs,s,r,h=>by
  simp only[a0u]at h⊢
  cases hx:a0f cx o x s with
  |none=>rw[hx]at h;cases h
  |some q=>rw[hx]at h;rw[a1e ho hx];exact a7s ho h
theorem b0r {cx:Cx} {o o':Orc} (ho:OLe o o'):∀ {m:Nat} {ops:List a0a} {s r:St},a2c cx o m ops s=some r->a2c cx o' m ops s=some r
 |0,[],_,_,h=>h
 |_+1,[],_,_,h=>h
 |0,x::xs,s,r,h=>a7s ho h
 |m+1,x::xs,s,r,h=>by
  simp only[a2c]at h⊢
  cases hx:a0f cx o x s with
  |none=>rw[hx]at h;cases h
  |some q=>
   rw[hx]at h;rw[a1e ho hx]
   simp only[Option.bind_some]at h⊢
   split at h
   ·rename_i hg;rw[if_pos hg];exact b0r ho h
   ·cases h
theorem d0f {cx:Cx} {o o':Orc} (ho:OLe o o') {m:Nat} {ops:List a0a} {s:St} (h:d1f cx o m ops s):d1f cx o' m ops s:=by
 rcases h with⟨d,od,τ,val,D⟩|⟨d,a,ε,val,Hs,D⟩|⟨a,h1,h2,r,h3⟩
 rotate_left
 rotate_left
 ·exact .inr (.inr ⟨a,h1,h2,r,b0r ho h3⟩)
 rotate_left
 ·exact .inr (.inl ⟨d,a,ε,val,Hs,D.ld,D.la,D.ne,D.le,D.zero,D.h0,D.env,fun i q x y hi hq h1 h2=>a1e ho (D.run i q x y hi hq h1 h2)⟩)
 exact .inl ⟨d,od,τ,val,D.lt,D.le,D.odx,D.zero,fun i q hi hq=>⟨a1e ho (D.step i q hi hq).1,(D.step i q hi hq).2⟩,D.quiet,fun i q hi hq=>a1e ho (D.ahead i q hi hq),fun i q h1 h2 hq=>(D.behind i q h1 h2 hq).imp id (a1e ho)⟩
theorem e4r {cx:Cx} {o o':Orc} (ho:OLe o o') {m:Nat} {ops:List a0a} {s r:St} (h:b3o cx o m ops s=some r):b3o cx o' m ops s=some r:=by
 obtain⟨h1,h2⟩:=a3v.1 h
 refine a3v.2 ⟨a7s ho h1,?_⟩
 rcases h2 with⟨q,hq⟩|hD
 ·exact .inl ⟨q,b0r ho hq⟩
 ·exact .inr (d0f ho hD)
theorem a9u {cx:Cx} {o o':Orc} (ho:OLe o o') {l l':Lp} (hl:LLe l l'):∀ {c:a0e} {s:St} {r:Ex×St},evC cx o l c s=some r->evC cx o' l' c s=some r:=by
 intro c
 induction c with
 |skip=>intro s r h;exact h
 |reg ops=>
  intro s r h;simp only[evC]at h⊢
  cases hx:a0u cx o ops s with
  |none=>rw[hx]at h;cases h
  |some q=>rw[hx]at h;rw[a7s ho hx];exact h
 |draw m ops=>
  intro s r h;simp only[evC]at h⊢
  cases hx:b3o cx o m ops s with
  |none=>rw[hx]at h;cases h
  |some q=>rw[hx]at h;rw[e4r ho hx];exact h
 |seq a b iha ihb=>
  intro s r h;simp only[evC]at h⊢
  cases hx:evC cx o l a s with
  |none=>rw[hx]at h;cases h
  |some q=>
   obtain⟨x,s'⟩:=q
   rw[hx]at h;rw[iha hx]
   cases x<;>first|exact ihb h|exact h
 |cond c a b iha ihb=>
  intro s r h;simp only[evC]at h⊢
  split at h
  ·split at h
   ·rename_i hb;rw[if_pos hb];exact iha h
   ·rename_i hb;rw[if_neg hb];exact ihb h
  ·cases h
 |block id b ih=>
  intro s r h;simp only[evC]at h⊢
  cases hx:evC cx o l b s with
  |none=>rw[hx]at h;cases h
  |some q=>rw[hx]at h;rw[ih hx];exact h
 |scope b ih=>intro s r h;simp only[evC]at h⊢;exact ih h
 |loop k b ih=>
  intro s r h;simp only[evC]at h⊢
  cases hx:evC cx o l b ⟨a2e k s.e,s.h,s.h.length⟩with
  |none=>rw[hx]at h;cases h
  |some q=>
   obtain⟨x,s'⟩:=q
   rw[hx]at h;rw[ih hx]
   cases x<;>simp only at h⊢ <;>first|exact hl _ _ _ _ h|exact h
 |exit i=>intro s r h;exact h
 |ret=>intro s r h;exact h
 |newrow a b=>intro s r h;exact h
 |bindrow a b c=>intro s r h;exact h
 |mkrow a=>intro s r h;exact h
 |bindto a b c=>intro s r h;exact h
 |freeze a=>intro s r h;exact h
theorem d8k {t:Bool} {h:Hp} {k k':Hp->Option (V×Hp)} {r:V×Hp} (hk:∀ h r,k h=some r->k' h=some r) (hr:bare t h k=some r):bare t h k'=some r:=by
 cases t with
 |true=>
  simp only[bare]at hr⊢
  obtain⟨q,hq,rfl⟩:=Option.map_eq_some_iff.1 hr
  rw[hk _ _ hq];rfl
 |false=>exact hk _ _ hr
theorem d9x (pg:Pg):∀ n,OLe (b2e pg n) (b2e pg (n+1))/\LLe (c5a pg n) (c5a pg (n+1))
 |0=>⟨fun _ _ _ _ h=>(nomatch ((b1c pg _ _ _).symm.trans h)),fun _ _ _ _ h=>(nomatch ((b2u pg _ _ _).symm.trans h))⟩
 |n+1=>by
  obtain⟨h1,h2⟩:=d9x pg n
  refine⟨fun f a h r hr=>?_,fun k b s r hr=>?_⟩
  ·rw[a6m,c3u]at hr⊢
   split at hr
   ·cases hr
   ·exact hr
   ·rename_i vf ht
    split at hr
    ·rename_i hl;rw[if_pos hl]
     refine d8k (fun h r hr=>?_) hr
     cases hx:evC pg.toCx (b2e pg n) (c5a pg n) vf.body ⟨a1d a,h,h.length⟩with
     |none=>rw[hx]at hr;cases hr
     |some q=>rw[hx]at hr;rw[a9u h1 h2 hx];exact hr
    ·cases hr
  ·rw[b0l]at hr⊢;exact a9u h1 h2 hr
theorem a9i (pg:Pg) {n m:Nat} (h:n<=m):OLe (b2e pg n) (b2e pg m):=by
 induction m with
 |zero=>obtain rfl:n=0:=om
        exact fun _ _ _ _ h=>h
 |succ m ih=>
  by_cases hm:n=m+1
  ·subst hm;exact fun _ _ _ _ h=>h
  ·exact fun f a hh r hr=>(d9x pg m).1 _ _ _ _ (ih om _ _ _ _ hr)
theorem e7c (pg:Pg) {n m:Nat} (h:n<=m):LLe (c5a pg n) (c5a pg m):=by
 induction m with
 |zero=>obtain rfl:n=0:=om
        exact fun _ _ _ _ h=>h
 |succ m ih=>
  by_cases hm:n=m+1
  ·subst hm;exact fun _ _ _ _ h=>h
  ·exact fun f a hh r hr=>(d9x pg m).2 _ _ _ _ (ih om _ _ _ _ hr)
open Classical in
@[irreducible] noncomputable def evF (pg:Pg):Orc:=fun f a h=>if x:∃ r,∃ n,b2e pg n f a h=some r then some x.choose else none
open Classical in
@[irreducible] noncomputable def evL (pg:Pg):Lp:=fun k b s=>if x:∃ r,∃ n,c5a pg n k b s=some r then some x.choose else none
theorem a6o {pg:Pg} {f:Nat} {a:List V} {h:Hp} {r:V×Hp}:evF pg f a h=some r↔∃ n,b2e pg n f a h=some r:=by
 unfold evF
 constructor
 ·intro hx
  split at hx
  ·rename_i x;cases hx;exact x.choose_spec
  ·cases hx
 ·rintro⟨n,hn⟩
  have x:∃ r,∃ n,b2e pg n f a h=some r:=⟨r,n,hn⟩
  rw[dif_pos x]
  obtain⟨m,hm⟩:=x.choose_spec
  have e1:=a9i pg (Nat.le_max_left n m) _ _ _ _ hn
  have e2:=a9i pg (Nat.le_max_right n m) _ _ _ _ hm
  rw[e1]at e2;exact e2.symm
theorem c3o {pg:Pg} {k:List Nat} {b:a0e} {s:St} {r:Ex×St}:evL pg k b s=some r↔∃ n,c5a pg n k b s=some r:=by
 unfold evL
 constructor
 ·intro hx
  split at hx
  ·rename_i x;cases hx;exact x.choose_spec
  ·cases hx
 ·rintro⟨n,hn⟩
  have x:∃ r,∃ n,c5a pg n k b s=some r:=⟨r,n,hn⟩
  rw[dif_pos x]
  obtain⟨m,hm⟩:=x.choose_spec
  have e1:=e7c pg (Nat.le_max_left n m) _ _ _ _ hn
  have e2:=e7c pg (Nat.le_max_right n m) _ _ _ _ hm
  rw[e1]at e2;exact e2.symm
theorem f4j (pg:Pg) (n:Nat):OLe (b2e pg n) (evF pg):=fun _ _ _ _ h=>a6o.2 ⟨n,h⟩
theorem g1i (pg:Pg) (n:Nat):LLe (c5a pg n) (evL pg):=fun _ _ _ _ h=>c3o.2 ⟨n,h⟩
section fin
variable {pg:Pg}
theorem f9x {b:Nat} {e:Env} {H:Hp} {op:VOp} {r:V×Hp} (h:a0s pg.toCx (evF pg) b e H op=some r):∃ n,a0s pg.toCx (b2e pg n) b e H op=some r:=by
 cases op with
 |call f args=>exact a6o.1 h
 |callv f args=>
  simp only[a0s]at h⊢
  split at h
  ·exact a6o.1 h
  ·exact a6o.1 h
  ·cases h
 |_=>exact⟨0,h⟩
theorem b0a {x:a0a} {s r:St} (h:a0f pg.toCx (evF pg) x s=some r):∃ n,a0f pg.toCx (b2e pg n) x s=some r:=by
 unfold a0f at h⊢
 cases hx:a0s pg.toCx (evF pg) s.b s.e s.h x.op with
 |none=>
  rw[hx]at h
  refine⟨0,?_⟩
  split at h
  ·cases h
  ·exact g2i (fun q hq=>by cases hq) h
 |some q=>
  obtain⟨n,hn⟩:=f9x hx
  rw[hx]at h
  exact⟨n,by rw[hn];exact h⟩
theorem c1l:∀ {ops:List a0a} {s r:St},a0u pg.toCx (evF pg) ops s=some r->∃ n,a0u pg.toCx (b2e pg n) ops s=some r
 |[],_,_,h=>⟨0,h⟩
 |x::xs,s,r,h=>by
  simp only[a0u]at h
  cases hx:a0f pg.toCx (evF pg) x s with
  |none=>rw[hx]at h;cases h
  |some q=>
   rw[hx]at h
   obtain⟨n,hn⟩:=b0a hx
   obtain⟨m,hm⟩:=c1l (ops:=xs) h
   exact⟨max n m,by simp only[a0u];rw[a1e (a9i pg (Nat.le_max_left n m)) hn];exact a7s (a9i pg (Nat.le_max_right n m)) hm⟩
theorem c3t:∀ {k:Nat} {ops:List a0a} {s r:St},a2c pg.toCx (evF pg) k ops s=some r->∃ n,a2c pg.toCx (b2e pg n) k ops s=some r
 |0,[],_,_,h=>⟨0,h⟩
 |_+1,[],_,_,h=>⟨0,h⟩
 |0,x::xs,s,r,h=>c1l h
 |k+1,x::xs,s,r,h=>by
  simp only[a2c]at h
  cases hx:a0f pg.toCx (evF pg) x s with
  |none=>rw[hx]at h;cases h
  |some q=>
   rw[hx]at h
   obtain⟨n,hn⟩:=b0a hx
   simp only[Option.bind_some]at h
   split at h
   ·rename_i hg
    obtain⟨m,hm⟩:=c3t (ops:=xs) h
    refine⟨max n m,?_⟩
    simp only[a2c];rw[a1e (a9i pg (Nat.le_max_left n m)) hn]
    simp only[Option.bind_some,if_pos hg]
    exact b0r (a9i pg (Nat.le_max_right n m)) hm
   ·cases h
theorem d8i {p:Nat->Nat->Prop} (hp:∀ i n n',n<=n'->p i n->p i n'):∀ m,(∀ i,i < m->∃ n,p i n)->∃ n,∀ i,i < m->p i n
 |0,_=>⟨0,fun i h=>absurd h (Nat.not_lt_zero i)⟩
 |m+1,h=>by
  obtain⟨n,hn⟩:=d8i hp m fun i hi=>h i om
  obtain⟨k,hk⟩:=h m om
  refine⟨max n k,fun i hi=>?_⟩
  rcases Nat.lt_succ_iff_lt_or_eq.1 hi with q|q
  ·exact hp i n _ (Nat.le_max_left n k) (hn i q)
  ·subst q;exact hp i k _ (Nat.le_max_right n k) hk
theorem f4l {m:Nat} {ops:List a0a} {s:St} (h:d1f pg.toCx (evF pg) m ops s):∃ n,d1f pg.toCx (b2e pg n) m ops s:=by
 rcases h with⟨d,od,τ,val,D⟩|⟨d,a,ε,val,Hs,D⟩|⟨a,h1,h2,r,h3⟩
 rotate_left
 rotate_left
 ·obtain⟨n,hn⟩:=c3t h3
  exact⟨n,.inr (.inr ⟨a,h1,h2,r,hn⟩)⟩
 rotate_left
 ·have key:∃ n,∀ i,i < m->∀ q,ops[i]? =some q->∀ x y,(i=d->x=false)->(i=a->y=false)->a0f pg.toCx (b2e pg n) q ⟨ε i,Hs x y,s.b⟩=some ⟨ε (i+1),Hs (x||decide (i=d)) (y||decide (i=a)),s.b⟩:=by
   refine d8i (p:=fun i n=> ∀ q,ops[i]? =some q->∀ x y,(i=d->x=false)->(i=a->y=false)->a0f pg.toCx (b2e pg n) q ⟨ε i,Hs x y,s.b⟩=some ⟨ε (i+1),Hs (x||decide (i=d)) (y||decide (i=a)),s.b⟩) (fun i n n' hn h q hq x y h1 h2=>a1e (a9i pg hn) (h q hq x y h1 h2)) m (fun i hi=>?_)
   have hil:i < ops.length:=Nat.lt_of_lt_of_le hi D.le
   have hq:=List.getElem?_eq_getElem hil
   have one:∀ x y,∃ n,(i=d->x=false)->(i=a->y=false)->a0f pg.toCx (b2e pg n) ops[i] ⟨ε i,Hs x y,s.b⟩=some ⟨ε (i+1),Hs (x||decide (i=d)) (y||decide (i=a)),s.b⟩:=fun x y=>by
     by_cases c1:i=d->x=false
     ·by_cases c2:i=a->y=false
      ·obtain⟨n,hn⟩:=b0a (D.run i _ x y hi hq c1 c2);exact⟨n,fun _ _=>hn⟩
      ·exact⟨0,fun _ h=>absurd h c2⟩
     ·exact⟨0,fun h=>absurd h c1⟩
   obtain⟨n1,g1⟩:=one false false
   obtain⟨n2,g2⟩:=one false true
   obtain⟨n3,g3⟩:=one true false
   obtain⟨n4,g4⟩:=one true true
   refine⟨n1+n2+n3+n4,fun q hq2 x y h1 h2=>?_⟩
   rw[hq]at hq2
   cases hq2
   cases x<;>cases y
   ·exact a1e (a9i pg om) (g1 h1 h2)
   ·exact a1e (a9i pg om) (g2 h1 h2)
   ·exact a1e (a9i pg om) (g3 h1 h2)
   ·exact a1e (a9i pg om) (g4 h1 h2)
  obtain⟨n,hn⟩:=key
  exact⟨n,.inr (.inl ⟨d,a,ε,val,Hs,D.ld,D.la,D.ne,D.le,D.zero,D.h0,D.env,fun i q x y hi hq h1 h2=>hn i hi q hq x y h1 h2⟩)⟩
 have key:∃ n,∀ i,i < m->∀ q,ops[i]? =some q->a0f pg.toCx (b2e pg n) q (τ i)=some (τ (i+1))/\(i < d->a0f pg.toCx (b2e pg n) q ⟨(τ i).e,(τ (d+1)).h,s.b⟩=some ⟨(τ (i+1)).e,(τ (d+1)).h,s.b⟩)/\(d < i->(∃ t,od.dst=some t/\t∈q.names)\/a0f pg.toCx (b2e pg n) q ⟨(τ i).e,s.h,s.b⟩=some ⟨(τ (i+1)).e,s.h,s.b⟩):=by
  refine d8i (p:=fun i n=> ∀ q,ops[i]? =some q->a0f pg.toCx (b2e pg n) q (τ i)=some (τ (i+1))/\(i < d->a0f pg.toCx (b2e pg n) q ⟨(τ i).e,(τ (d+1)).h,s.b⟩=some ⟨(τ (i+1)).e,(τ (d+1)).h,s.b⟩)/\(d < i->(∃ t,od.dst=some t/\t∈q.names)\/a0f pg.toCx (b2e pg n) q ⟨(τ i).e,s.h,s.b⟩=some ⟨(τ (i+1)).e,s.h,s.b⟩)) (fun i n n' hn h q hq=>?_) m (fun i hi=>?_)
  ·obtain⟨a,b,c⟩:=h q hq
   exact⟨a1e (a9i pg hn) a,fun x=>a1e (a9i pg hn) (b x),fun x=>(c x).imp id (a1e (a9i pg hn))⟩
  ·have hil:i < ops.length:=Nat.lt_of_lt_of_le hi D.le
   have hq:=List.getElem?_eq_getElem hil
   obtain⟨n1,h1⟩:=b0a (D.step i _ hi hq).1
   obtain⟨n2,h2⟩:∃ n,i < d->a0f pg.toCx (b2e pg n) ops[i] ⟨(τ i).e,(τ (d+1)).h,s.b⟩=some ⟨(τ (i+1)).e,(τ (d+1)).h,s.b⟩:=by
    by_cases c:i < d
    ·obtain⟨n,hn⟩:=b0a (D.ahead i _ c hq);exact⟨n,fun _=>hn⟩
    ·exact⟨0,fun x=>absurd x c⟩
   obtain⟨n3,h3⟩:∃ n,d < i->(∃ t,od.dst=some t/\t∈ops[i].names)\/a0f pg.toCx (b2e pg n) ops[i] ⟨(τ i).e,s.h,s.b⟩=some ⟨(τ (i+1)).e,s.h,s.b⟩:=by
    by_cases c:d < i
    ·rcases D.behind i _ c hi hq with x|x
     ·exact⟨0,fun _=> .inl x⟩
     ·obtain⟨n,hn⟩:=b0a x;exact⟨n,fun _=> .inr hn⟩
    ·exact⟨0,fun x=>absurd x c⟩
   refine⟨max n1 (max n2 n3),fun q hq2=>?_⟩
   rw[hq]at hq2
   cases hq2
   have l1:n1<=max n1 (max n2 n3):=Nat.le_max_left ..
   have l2:n2<=max n1 (max n2 n3):=Nat.le_trans (Nat.le_max_left n2 n3) (Nat.le_max_right ..)
   have l3:n3<=max n1 (max n2 n3):=Nat.le_trans (Nat.le_max_right n2 n3) (Nat.le_max_right ..)
   exact⟨a1e (a9i pg l1) h1,fun x=>a1e (a9i pg l2) (h2 x),fun x=>(h3 x).imp id (a1e (a9i pg l3))⟩
 obtain⟨n,hn⟩:=key
 exact⟨n,.inl ⟨d,od,τ,val,D.lt,D.le,D.odx,D.zero,fun i q hi hq=>⟨(hn i hi q hq).1,(D.step i q hi hq).2⟩,D.quiet,fun i q hi hq=>(hn i (Nat.lt_trans hi D.lt) q hq).2.1 hi,fun i q h1 h2 hq=>(hn i h2 q hq).2.2 h1⟩⟩
theorem f3t {m:Nat} {ops:List a0a} {s r:St} (h:b3o pg.toCx (evF pg) m ops s=some r):∃ n,b3o pg.toCx (b2e pg n) m ops s=some r:=by
 obtain⟨h1,h2⟩:=a3v.1 h
 obtain⟨n1,g1⟩:=c1l h1
 rcases h2 with⟨q,hq⟩|hD
 ·obtain⟨n2,g2⟩:=c3t hq
  exact⟨max n1 n2,a3v.2 ⟨a7s (a9i pg (Nat.le_max_left ..)) g1,.inl ⟨q,b0r (a9i pg (Nat.le_max_right ..)) g2⟩⟩⟩
 ·obtain⟨n2,g2⟩:=f4l hD
  exact⟨max n1 n2,a3v.2 ⟨a7s (a9i pg (Nat.le_max_left ..)) g1,.inr (d0f (a9i pg (Nat.le_max_right ..)) g2)⟩⟩
theorem c3x:∀ {c:a0e} {s:St} {r:Ex×St},evC pg.toCx (evF pg) (evL pg) c s=some r->∃ n,evC pg.toCx (b2e pg n) (c5a pg n) c s=some r:=by
 intro c
 induction c with
 |skip=>intro s r h;exact⟨0,h⟩
 |reg ops=>
  intro s r h;simp only[evC]at h⊢
  cases hx:a0u pg.toCx (evF pg) ops s with
  |none=>rw[hx]at h;cases h
  |some q=>rw[hx]at h;obtain⟨n,hn⟩:=c1l hx;exact⟨n,by rw[hn];exact h⟩
 |draw m ops=>
  intro s r h;simp only[evC]at h⊢
  cases hx:b3o pg.toCx (evF pg) m ops s with
  |none=>rw[hx]at h;cases h
  |some q=>rw[hx]at h;obtain⟨n,hn⟩:=f3t hx;exact⟨n,by rw[hn];exact h⟩
 |seq a b iha ihb=>
  intro s r h;simp only[evC]at h⊢
  cases hx:evC pg.toCx (evF pg) (evL pg) a s with
  |none=>rw[hx]at h;cases h
  |some q=>
   obtain⟨x,s'⟩:=q
   rw[hx]at h
   obtain⟨n,hn⟩:=iha hx
   cases x with
   |nrm=>
    obtain⟨m,hm⟩:=ihb h
    refine⟨max n m,?_⟩
    rw[a9u (a9i pg (Nat.le_max_left n m)) (e7c pg (Nat.le_max_left n m)) hn]
    exact a9u (a9i pg (Nat.le_max_right n m)) (e7c pg (Nat.le_max_right n m)) hm
   |exit i=>exact⟨n,by rw[hn];exact h⟩
   |ret=>exact⟨n,by rw[hn];exact h⟩
 |cond c a b iha ihb=>
  intro s r h;simp only[evC]at h⊢
  split at h
  ·split at h
   ·rename_i hb;simp only[if_pos hb];exact iha h
   ·rename_i hb;simp only[if_neg hb];exact ihb h
  ·cases h
 |block id b ih=>
  intro s r h;simp only[evC]at h⊢
  cases hx:evC pg.toCx (evF pg) (evL pg) b s with
  |none=>rw[hx]at h;cases h
  |some q=>rw[hx]at h;obtain⟨n,hn⟩:=ih hx;exact⟨n,by rw[hn];exact h⟩
 |scope b ih=>intro s r h;simp only[evC]at h⊢;exact ih h
 |loop k b ih=>
  intro s r h;simp only[evC]at h⊢
  cases hx:evC pg.toCx (evF pg) (evL pg) b ⟨a2e k s.e,s.h,s.h.length⟩with
  |none=>rw[hx]at h;cases h
  |some q=>
   obtain⟨x,s'⟩:=q
   rw[hx]at h
   obtain⟨n,hn⟩:=ih hx
   cases x with
   |nrm=>
    obtain⟨m,hm⟩:=c3o.1 h
    refine⟨max n m,?_⟩
    rw[a9u (a9i pg (Nat.le_max_left n m)) (e7c pg (Nat.le_max_left n m)) hn]
    exact e7c pg (Nat.le_max_right n m) _ _ _ _ hm
   |exit i=>exact⟨n,by rw[hn];exact h⟩
   |ret=>exact⟨n,by rw[hn];exact h⟩
 |exit i=>intro s r h;exact⟨0,h⟩
 |ret=>intro s r h;exact⟨0,h⟩
 |newrow a b=>intro s r h;exact⟨0,h⟩
 |bindrow a b c=>intro s r h;exact⟨0,h⟩
 |mkrow a=>intro s r h;exact⟨0,h⟩
 |bindto a b c=>intro s r h;exact⟨0,h⟩
 |freeze a=>intro s r h;exact⟨0,h⟩
end fin
noncomputable def ev (pg:Pg) (c:a0e) (s:St):Option (Ex×St):=evC pg.toCx (evF pg) (evL pg) c s
theorem f3a {α:Type} {a b:Option α} (h1:∀ r,a=some r->b=some r) (h2:∀ r,b=some r->a=some r):a=b:=by
 cases ha:a with
 |some r=>exact(h1 r ha).symm
 |none=>
  cases hb:b with
  |none=>rfl
  |some r=>rw[h2 r hb]at ha;cases ha
theorem h4o (pg:Pg) (k:List Nat) (b:a0e) (s:St):evL pg k b s=ev pg (.loop k b) s:=by
 refine f3a (fun r h=>?_) (fun r h=>?_)
 ·obtain⟨n,hn⟩:=c3o.1 h
  cases n with
  |zero=>rw[b2u]at hn;cases hn
  |succ n=>rw[b0l]at hn;exact a9u (f4j pg n) (g1i pg n) hn
 ·obtain⟨n,hn⟩:=c3x h
  exact c3o.2 ⟨n+1,by rw[b0l];exact hn⟩
theorem b3t {pg:Pg} {f:Nat} {F:List V->Hp->Option (V×Hp)} (ht:pg.tbl f=some (.prim F)) (a:List V) (h:Hp):evF pg f a h=F a h:=by
 refine f3a (fun r hr=>?_) (fun r hr=>?_)
 ·obtain⟨n,hn⟩:=a6o.1 hr
  cases n with
  |zero=>rw[b1c]at hn;cases hn
  |succ n=>rw[a6m,c3u,ht]at hn;exact hn
 ·exact a6o.2 ⟨1,by rw[a6m,c3u,ht];exact hr⟩
noncomputable def f3b (pg:Pg) (vf:VFn) (a:List V) (h:Hp):Option (V×Hp):=
 match ev pg vf.body ⟨a1d a,h,h.length⟩with
 |some (.nrm,s)|some (.ret,s)=>leave vf h.length s
 |_=>none
theorem e3o {pg:Pg} {f:Nat} {vf:VFn} (ht:pg.tbl f=some (.code vf)) (a:List V) (h:Hp):
 evF pg f a h=if a.length=vf.np then bare (a0z 0 a && !vf.keep) h (f3b pg vf a) else none:=by
 refine f3a (fun r hr=>?_) (fun r hr=>?_)
 ·obtain⟨n,hn⟩:=a6o.1 hr
  cases n with
  |zero=>rw[b1c]at hn;cases hn
  |succ n=>
   rw[a6m,c3u,ht]at hn
   simp only at hn
   split at hn
   ·rename_i hl;rw[if_pos hl]
    refine d8k (fun h r hn=>?_) hn
    cases hx:evC pg.toCx (b2e pg n) (c5a pg n) vf.body ⟨a1d a,h,h.length⟩with
    |none=>rw[hx]at hn;cases hn
    |some q=>rw[hx]at hn;rw[f3b,ev,a9u (f4j pg n) (g1i pg n) hx];exact hn
   ·cases hn
 ·split at hr
  ·rename_i hl
   have key:∀ h r,f3b pg vf a h=some r->∃ n,(match evC pg.toCx (b2e pg n) (c5a pg n) vf.body ⟨a1d a,h,h.length⟩with
       |some (.nrm,s)|some (.ret,s)=>leave vf h.length s
       |_=>none)=some r:=by
     intro h r hr
     rw[f3b]at hr
     cases hx:ev pg vf.body ⟨a1d a,h,h.length⟩with
     |none=>rw[hx]at hr;cases hr
     |some q=>
      rw[hx]at hr
      obtain⟨n,hn⟩:=c3x hx
      exact⟨n,by rw[hn];exact hr⟩
   cases ht':(a0z 0 a && !vf.keep)with
   |true=>
    rw[ht']at hr
    simp only[bare]at hr
    obtain⟨q,hq,rfl⟩:=Option.map_eq_some_iff.1 hr
    obtain⟨n,hn⟩:=key _ _ hq
    refine a6o.2 ⟨n+1,?_⟩
    rw[a6m,c3u,ht]
    simp only[if_pos hl,ht',bare]
    exact congrArg (Option.map fun r=>(r.1,h)) hn
   |false=>
    rw[ht']at hr
    simp only[bare]at hr
    obtain⟨n,hn⟩:=key _ _ hr
    refine a6o.2 ⟨n+1,?_⟩
    rw[a6m,c3u,ht]
    simp only[if_pos hl,ht',bare]
    exact hn
  ·cases hr
end Go.Vm
namespace Go.Vm
def Clean (n:Nat) (H:Hp):Prop:=∀ i c,i < n->H[i]? =some (.box c)->a0z n c=true
def g1z (C:Nat->List Value) (l:List (D×D)) (es:List MapEntry):Prop:=es.length=l.length/\∀ (i:Nat) p e,l[i]? =some p->es[i]? =some e->a3d C p.1 e.key/\a3d C p.2 e.val/\e.born=i
def e2r (g:Gh) (H:Hp) (w:World) (b cap:Nat):Ob->Prop
 | .box c=> ∃ cur e,w.heap[b]? =some (.cells cur e (0,0))/\a1p g H c cur.toList/\g.C b=[]
 | .frz c=>a1n g.C c (g.C b)
 | .map l=>(∃ es:Array MapEntry,w.heap[b]? =some (.map es l.length)/\g1z g.C l es.toList)/\g.C b=[]
 | .row sz l=> ∃ cur e,w.heap[b]? =some (.cells cur e (0,0))/\a2a g.C sz l (g.C b)/\0 < sz/\l.length<=cap/\cur.size=cap*sz/\cap<=maxLen
def f9a (cx:Cx) (g:Gh) (w:World):Prop:=∀ i o,cx.fx i=some o->w.heap[i]? =some o/\∀ k c,g.J k≠some (i,c)
structure Inv (cx:Cx) (g:Gh) (H:Hp) (w:World):Prop where
 inj:∀ i k b c c',g.J i=some (b,c)->g.J k=some (b,c')->i=k
 dom:∀ i b c,g.J i=some (b,c)->i < H.length/\b < w.heap.size
 ob:∀ i b c o,g.J i=some (b,c)->H[i]? =some o->e2r g H w b c o
 imm:∀ b,g.C b≠[]->∃ cur e fz,w.heap[b]? =some (.cells cur e fz)/\g.C b <+:cur.toList
 und:Clean H.length H
 glob:∀ i,∃ vs,vs <+:g.C i/\a1n g.C (cx.gv i) vs
 fix:f9a cx g w
theorem f9a.mono {cx:Cx} {g g':Gh} {w w':World} (h:f9a cx g w) (hh:∀ b,b < w.heap.size->(∀ k c,g.J k≠some (b,c))->w'.heap[b]? =w.heap[b]? /\∀ k c,g'.J k≠some (b,c)):f9a cx g' w':=fun i o hi=>by
  obtain⟨h1,h2⟩:=h i o hi
  obtain⟨h3,h4⟩:=hh i (Array.getElem?_eq_some_iff.1 h1).1 h2
  exact⟨h3.trans h1,h4⟩
structure Ext (nb:Nat) (g:Gh) (H:Hp) (w:World) (g':Gh) (H':Hp) (w':World):Prop where
 os:w'.os=w.os
 tape:w'.tape=w.tape
 output:w'.output=w.output
 size:w.heap.size<=w'.heap.size
 frame:∀ b,b < w.heap.size->(∀ i c,g.J i≠some (b,c))->w'.heap[b]? =w.heap[b]? /\g'.C b=g.C b
 keep:Keep H.length g H g' H'
 jnew:∀ i b c,g'.J i=some (b,c)->b < w.heap.size->∃ k c',g.J k=some (b,c')
 clean:∀ n,n<=nb->Clean n H->Clean n H'
 len:H.length<=H'.length
theorem Ext.refl (nb:Nat) (g:Gh) (H:Hp) (w:World):Ext nb g H w g H w:=
 ⟨rfl,rfl,rfl,Nat.le_refl _,fun _ _ _=>⟨rfl,rfl⟩,Keep.refl _ _ _,fun i _ c h _=>⟨i,c,h⟩,fun _ _ h=>h,Nat.le_refl _⟩
theorem Ext.trans {nb nb':Nat} {g g1 g2:Gh} {H H1 H2:Hp} {w w1 w2:World} (h:Ext nb g H w g1 H1 w1) (k:Ext nb' g1 H1 w1 g2 H2 w2) (hb:nb<=nb'):Ext nb g H w g2 H2 w2:=by
 refine⟨k.os.trans h.os,k.tape.trans h.tape,k.output.trans h.output,Nat.le_trans h.size k.size,fun b hb hj=>?_,h.keep.trans k.keep h.len,fun i b c hi hlt=>?_,fun n hn hc=>k.clean n om (h.clean n hn hc),Nat.le_trans h.len k.len⟩
 ·obtain⟨a1,a2⟩:=h.frame b hb hj
  obtain⟨b1,b2⟩:=k.frame b (Nat.lt_of_lt_of_le hb h.size) (fun i c hi=>by
    obtain⟨k',c',hk⟩:=h.jnew i b c hi hb
    exact hj k' c' hk)
  exact⟨b1.trans a1,b2.trans a2⟩
 ·obtain⟨k1,c1,h1⟩:=k.jnew i b c hi (Nat.lt_of_lt_of_le hlt h.size)
  exact h.jnew k1 b c1 h1 hlt
theorem Ext.le {nb nb':Nat} {g g':Gh} {H H':Hp} {w w':World} (h:Ext nb g H w g' H' w') (hn:nb'<=nb):Ext nb' g H w g' H' w':=
 ⟨h.os,h.tape,h.output,h.size,h.frame,h.keep,h.jnew,fun n hn'=>h.clean n om,h.len⟩
def a9t (g:Gh) (H:Hp) (N:Nat) (e:Env) (t:Array Value):Prop:=
 t.size=N/\∀ i,i < N->Rep g H (a1l e i) (t.getD i undef)/\(a1l e i).und H.length=true
mutual
theorem V.a7f {n m:Nat} (h:n<=m):∀ v:V,v.und n=true->v.und m=true
 | .d _,_=>rfl
 | .agg l,u=>by simp only[V.und]at u⊢;exact a3q h l u
 | .tup l,u=>by simp only[V.und]at u⊢;exact a3q h l u
 | .nils,_=>rfl
 | .row id _,u=>by simp only[V.und,decide_eq_true_eq]at u⊢;omega
 | .arr id _ _,u=>by simp only[V.und,decide_eq_true_eq]at u⊢;omega
 | .ptr id _,u=>by simp only[V.und,decide_eq_true_eq]at u⊢;omega
 | .mp id,u=>by simp only[V.und,decide_eq_true_eq]at u⊢;omega
 | .ro _ _,_=>rfl
 | .fn _ l,u=>by simp only[V.und]at u⊢;exact a3q h l u
 | .fm _ l,u=>by simp only[V.und]at u⊢;exact a3q h l u
 | .nul,_=>rfl
 | .nof,_=>rfl
 | .ifc _,_=>rfl
 | .raw _,_=>rfl
 | .nmp,_=>rfl
 | .nile,_=>rfl
 | .undef,_=>rfl
theorem a3q {n m:Nat} (h:n<=m):∀ l:List V,a0z n l=true->a0z m l=true
 |[],_=>rfl
 |v::l,u=>by
  simp only[a0z,Bool.and_eq_true]at u⊢
  exact⟨V.a7f h v u.1,a3q h l u.2⟩
end
theorem a9t.ext {nb:Nat} {g g':Gh} {H H':Hp} {w w':World} {N:Nat} {e:Env} {t:Array Value} (h:a9t g H N e t) (x:Ext nb g H w g' H' w'):a9t g' H' N e t:=
 ⟨h.1,fun i hi=>⟨a2n x.keep.w _ _ (h.2 i hi).2 (h.2 i hi).1,V.a7f x.len _ (h.2 i hi).2⟩⟩
def g6d (d:Option Nat) (x:Value) (t:Array Value):Array Value:=match d with|some d=>t.setIfInBounds d x|none=>t
theorem a9t.put {g:Gh} {H:Hp} {N:Nat} {e:Env} {t:Array Value} (h:a9t g H N e t) {d:Option Nat} {v:V} {x:Value} (hd:∀ k,d=some k->k < N) (hr:Rep g H v x) (hu:v.und H.length=true):
 a9t g H N (a9r d v e) (g6d d x t):=by
 cases d with
 |none=>exact h
 |some k=>
  simp only[g6d]
  refine⟨by simpa using h.1,fun i hi=>?_⟩
  have hk:=hd k rfl
  simp only[a9r,a1l]
  by_cases hki:k=i
  ·subst hki
   rw[if_pos rfl]
   have:(t.setIfInBounds k x).getD k undef=x:=by simp[Array.getD,h.1,hi]
   rw[this]
   exact⟨hr,hu⟩
  ·rw[if_neg hki]
   have:(t.setIfInBounds k x).getD i undef=t.getD i undef:=by
    simp only[Array.getD_eq_getD_getElem?,Array.getElem?_setIfInBounds]
    rw[if_neg hki]
   rw[this]
   exact h.2 i hi
end Go.Vm
namespace Go.Vm
inductive a0i (P:Program) (cx:Cx) (nb:Nat) (g:Gh) (H:Hp) (w:World) (r:V) (H':Hp):Result Next->Prop
 |val (g':Gh) (x:Value) (w':World):Inv cx g' H' w'->Rep g' H' r x->r.und H'.length=true->Ext nb g H w g' H' w'->a0i P cx nb g H w r H' (.ok (.value x) w')
 |skip (g':Gh) (w':World):Inv cx g' H' w'->r= .undef->Ext nb g H w g' H' w'->a0i P cx nb g H w r H' (.ok .skip w')
 |call (f:FuncId) (args:Array Value):Calls P f args w (fun e w'=> ∃ g' x,e= .returned x/\Inv cx g' H' w'/\Rep g' H' r x/\r.und H'.length=true/\Ext nb g H w g' H' w')->a0i P cx nb g H w r H' (.ok (.enter f args) w)
theorem a0i.wp {P:Program} {cx:Cx} {nb:Nat} {g:Gh} {H:Hp} {w:World} {r:V} {H':Hp} {o:Oper} {a:Act} {K:Act->World->Prop} {Q:Exit->Act->World->Prop}
 (h:a0i P cx nb g H w r H' ((execOp a.eval o).run P w))
 (hk:∀ g' x w',Inv cx g' H' w'->Rep g' H' r x->r.und H'.length=true->Ext nb g H w g' H' w'->K (a.put o.dst x) w'):o.wp P a w K Q:=by
 unfold Oper.wp
 generalize(execOp a.eval o).run P w=res at h
 cases h with
 |val g' x w' h1 h2 h3 h4=>exact hk g' x w' h1 h2 h3 h4
 |skip g' w' h1 h2 h4=>subst h2;exact hk g' Go.undef w' h1 trivial rfl h4
 |call f args hc=>
  rw[Oper.upon_enter]
  refine hc.mono fun e w' he=>?_
  obtain⟨g',x,rfl,h1,h2,h3,h4⟩:=he
  exact hk g' x w' h1 h2 h3 h4
section
variable {P:Program} {cx:Cx} {nb:Nat} {g:Gh} {H:Hp} {w:World}
theorem a0i.pure {r:V} {x:Value} {res:Result Next} (hI:Inv cx g H w) (he:res= .ok (.value x) w) (hr:Rep g H r x) (hu:r.und H.length=true):a0i P cx nb g H w r H res:=by
 subst he
 exact .val g x w hI hr hu (Ext.refl ..)
theorem b0w:∀ {l:List D} {vs:List Value},a1n g.C l vs->a1p g H (l.map V.d) vs
 |[],vs,r=>by simp only[a1n]at r;subst r;simp[a1p]
 |d::ds,vs,r=>by
  simp only[a1n]at r
  obtain⟨y,ys,rfl,h1,h2,h3⟩:=r
  simp only[List.map_cons,a1p]
  refine⟨y,ys,rfl,?_,?_,b0w h3⟩
  ·cases d<;>first|rfl|cases h1
  ·simp only[Rep];exact d9y h1 h2
theorem a9z (n:Nat):∀ l:List D,a0z n (l.map V.d)=true
 |[]=>rfl
 |d::ds=>by simp only[List.map_cons,a0z,a9z n ds,Bool.and_true];rfl
theorem c5m:∀ {l:List V} {ds:List D} {vs:List Value},b9e l=some ds->a1p g H l vs->a1n g.C ds vs
 |[],ds,vs,h,r=>by simp only[b9e,Option.some.injEq]at h;subst h;simpa only[a1p,a1n] using r
 |v::l,ds,vs,h,r=>by
  simp only[a1p]at r
  obtain⟨y,ys,rfl,h1,h2,h3⟩:=r
  cases v with
  |d x=>
   simp only[b9e]at h
   obtain⟨xs,hx,rfl⟩:=Option.map_eq_some_iff.1 h
   simp only[a1n]
   have hone:x.one=true:=by cases x<;>first|rfl|cases h1
   refine⟨y,ys,rfl,hone,?_,c5m hx h3⟩
   simp only[Rep]at h2
   cases x<;>first|exact h2|cases hone
  |_=>simp[b9e]at h
theorem c0w {l:List V} {vs:List Value} (r:a1p g H l vs):Rep g H (b1g l) (.agg vs.toArray):=by
 unfold b1g
 split
 ·rename_i ds hd
  simp only[Rep,a3d]
  exact⟨_,rfl,by simpa using c5m hd r⟩
 ·simp only[Rep]
  exact⟨_,rfl,by simpa using r⟩
theorem c1j {l:List V} {n:Nat} (r:a0z n l=true):(b1g l).und n=true:=by
 unfold b1g
 split
 ·rfl
 ·simpa only[V.und] using r
theorem c6z {v:V} {x:Value} (ho:v.cells.all V.one=true) (r:Rep g H v x):a1p g H v.cells x.cells.toList:=by
 have one (hv:v.one=true) (hc:v.cells=[v]) (hx:x.cells= #[x]):a1p g H v.cells x.cells.toList:=by
  rw[hc,hx];simp only[a1p];exact⟨x,[],rfl,hv,r,rfl⟩
 cases v with
 |d d=>
  cases d with
  |agg l=>
   simp only[Rep,a3d]at r
   obtain⟨cs,rfl,r⟩:=r
   exact b0w r
  |bool b=>exact one rfl rfl (by simp only[Rep,a3d,a0p]at r;cases r;rfl)
  |int k n=>exact one rfl rfl (by simp only[Rep,a3d,a0p]at r;cases r;rfl)
  |str s=>exact one rfl rfl (by simp only[Rep,a3d,a0p]at r;cases r;rfl)
  |sl l=>exact one rfl rfl (by simp only[Rep,a3d,a0p]at r;obtain⟨a,cap,h,_⟩:=r;cases h;rfl)
 |agg l=>
  simp only[Rep]at r
  obtain⟨cs,rfl,r⟩:=r
  exact r
 |tup l=>cases ho
 |undef=>cases ho
 |nils=>exact one rfl rfl (by simp only[Rep]at r;subst r;rfl)
 |row id len=>exact one rfl rfl (by simp only[Rep]at r;obtain⟨a,cap,sz,l,rfl,_⟩:=r;rfl)
 |arr id off len=>exact one rfl rfl (by simp only[Rep]at r;obtain⟨_,b,c,cap,_,rfl,_⟩:=r;rfl)
 |ptr id off=>exact one rfl rfl (by simp only[Rep]at r;obtain⟨_,b,c,_,rfl⟩:=r;rfl)
 |mp id=>exact one rfl rfl (by simp only[Rep]at r;obtain⟨_,b,c,_,rfl⟩:=r;rfl)
 |ro l off=>exact one rfl rfl (by simp only[Rep]at r;obtain⟨b,o,vs,rfl,_⟩:=r;rfl)
 |fn f c=>exact one rfl rfl (by simp only[Rep]at r;obtain⟨cs,rfl,_⟩:=r;rfl)
 |fm f c=>exact one rfl rfl (by simp only[Rep]at r;obtain⟨cs,rfl,_⟩:=r;rfl)
 |nul=>exact one rfl rfl (by simp only[Rep]at r;subst r;rfl)
 |nof=>exact one rfl rfl (by simp only[Rep]at r;subst r;rfl)
 |ifc b=>exact one rfl rfl (by simp only[Rep]at r;rcases r with⟨_,rfl⟩|⟨_,t,y,rfl⟩<;>rfl)
 |raw y=>cases ho
 |nmp=>exact one rfl rfl (by simp only[Rep]at r;subst r;rfl)
 |nile=>exact one rfl rfl (by simp only[Rep]at r;obtain⟨a,rfl,_⟩:=r;rfl)
theorem c2s {v:V} {n:Nat} (u:v.und n=true) (ho:v.cells.all V.one=true):a0z n v.cells=true:=by
 cases v with
 |d d=>cases d<;>first|rfl|exact a9z n _
 |agg l=>simpa only[V.und,V.cells] using u
 |tup l=>cases ho
 |undef=>cases ho
 |_=>simp only[V.cells,a0z,Bool.and_true];exact u
theorem a3k:∀ {l:List V} {vs:List Value},a1p g H l vs->vs.length=l.length
 |[],vs,r=>by simp only[a1p]at r;subst r;rfl
 |d::ds,vs,r=>by
  simp only[a1p]at r
  obtain⟨y,ys,rfl,_,_,h3⟩:=r
  simp[a3k h3]
theorem g3a {v:V} {x:Value} (h:v.one=true) (r:Rep g H v x):x.oneCell'=true:=by
 cases v with
 |d d=>
  simp only[Rep]at r
  cases d with
  |agg l=>cases h
  |_=>exact c7c rfl r
 |agg l=>cases h
 |tup l=>cases h
 |undef=>cases h
 |nils=>simp only[Rep]at r;subst r;rfl
 |row id len=>simp only[Rep]at r;obtain⟨a,cap,sz,l,rfl,_⟩:=r;rfl
 |arr id off len=>simp only[Rep]at r;obtain⟨_,b,c,cap,_,rfl,_⟩:=r;rfl
 |ptr id off=>simp only[Rep]at r;obtain⟨_,b,c,_,rfl⟩:=r;rfl
 |mp id=>simp only[Rep]at r;obtain⟨_,b,c,_,rfl⟩:=r;rfl
 |ro l off=>simp only[Rep]at r;obtain⟨b,o,vs,rfl,_⟩:=r;rfl
 |fn f c=>simp only[Rep]at r;obtain⟨cs,rfl,_⟩:=r;rfl
 |fm f c=>simp only[Rep]at r;obtain⟨cs,rfl,_⟩:=r;rfl
 |nul=>simp only[Rep]at r;subst r;rfl
 |nof=>simp only[Rep]at r;subst r;rfl
 |ifc b=>simp only[Rep]at r;rcases r with⟨_,rfl⟩|⟨_,t,y,rfl⟩<;>rfl
 |raw y=>cases h
 |nmp=>simp only[Rep]at r;subst r;rfl
 |nile=>simp only[Rep]at r;obtain⟨a,rfl,_⟩:=r;rfl
theorem d1a:∀ {l:List V} {vs:List Value},a1p g H l vs->∀ v∈vs,v.oneCell'=true
 |[],vs,r,v,hv=>by simp only[a1p]at r;subst r;cases hv
 |d::ds,vs,r,v,hv=>by
  simp only[a1p]at r
  obtain⟨y,ys,rfl,h1,h2,h3⟩:=r
  cases hv with
  |head=>exact g3a h1 h2
  |tail _ hm=>exact d1a h3 v hm
theorem b5r:∀ {l:List V} {vs:List Value} {i:Nat} {v:V},a1p g H l vs->l[i]? =some v->∃ y,vs[i]? =some y/\v.one=true/\Rep g H v y
 |[],vs,i,d,r,h=>by simp at h
 |d::ds,vs,0,d',r,h=>by
  simp only[a1p]at r
  obtain⟨y,ys,rfl,h1,h2,h3⟩:=r
  simp only[List.getElem?_cons_zero,Option.some.injEq]at h
  subst h
  exact⟨y,rfl,h1,h2⟩
 |d::ds,vs,i+1,d',r,h=>by
  simp only[a1p]at r
  obtain⟨y,ys,rfl,h1,h2,h3⟩:=r
  simp only[List.getElem?_cons_succ]at h⊢
  exact b5r h3 h
theorem b6y:∀ {l:List V} {vs:List Value} (k:Nat),a1p g H l vs->a1p g H (l.take k) (vs.take k)
 |[],vs,k,r=>by simp only[a1p]at r;subst r;simp[a1p]
 |d::ds,vs,0,r=>by simp[a1p]
 |d::ds,vs,k+1,r=>by
  simp only[a1p]at r
  obtain⟨y,ys,rfl,h1,h2,h3⟩:=r
  simp only[List.take_succ_cons,a1p]
  exact⟨y,ys.take k,rfl,h1,h2,b6y k h3⟩
theorem b7b:∀ {l:List V} {vs:List Value} (k:Nat),a1p g H l vs->a1p g H (l.drop k) (vs.drop k)
 |[],vs,k,r=>by simp only[a1p]at r;subst r;simp[a1p]
 |d::ds,vs,0,r=>by simpa using r
 |d::ds,vs,k+1,r=>by
  simp only[a1p]at r
  obtain⟨y,ys,rfl,h1,h2,h3⟩:=r
  simp only[List.drop_succ_cons]
  exact b7b k h3
theorem c0m {n:Nat}:∀ {l:List V} {i:Nat} {v:V},a0z n l=true->l[i]? =some v->v.und n=true
 |[],i,v,_,h=>by simp at h
 |x::xs,0,v,u,h=>by
  simp only[a0z,Bool.and_eq_true]at u
  simp only[List.getElem?_cons_zero,Option.some.injEq]at h
  subst h;exact u.1
 |x::xs,i+1,v,u,h=>by
  simp only[a0z,Bool.and_eq_true]at u
  simp only[List.getElem?_cons_succ]at h
  exact c0m u.2 h
theorem c0p {n:Nat}:∀ {l:List V} (k:Nat),a0z n l=true->a0z n (l.drop k)=true
 |[],k,u=>by simp[a0z]
 |x::xs,0,u=>by simpa using u
 |x::xs,k+1,u=>by
  simp only[a0z,Bool.and_eq_true]at u
  simp only[List.drop_succ_cons]
  exact c0p k u.2
theorem c0q {n:Nat}:∀ {l:List V} (k:Nat),a0z n l=true->a0z n (l.take k)=true
 |[],k,u=>by simp[a0z]
 |x::xs,0,u=>by simp[a0z]
 |x::xs,k+1,u=>by
  simp only[a0z,Bool.and_eq_true]at u
  simp only[List.take_succ_cons,a0z,Bool.and_eq_true]
  exact⟨u.1,c0q k u.2⟩
theorem c6f {v:V} {d:D} {x:Value} (hI:Inv cx g H w) (h:b2i H v=some d) (r:Rep g H v x):a3d g.C d x:=by
 cases v with
 |d y=>simp only[b2i,Option.some.injEq]at h;subst h;simpa only[Rep] using r
 |nils=>simp only[b2i,Option.some.injEq]at h;subst h;simp only[Rep]at r;subst r;exact⟨none,0,rfl,Nat.le_refl _,.inl rfl⟩
 |nile=>simp only[b2i,Option.some.injEq]at h;subst h;simp only[Rep]at r;obtain⟨a,rfl,_⟩:=r;exact⟨a,0,rfl,Nat.le_refl _,.inl rfl⟩
 |row id len=>
  simp only[Rep]at r
  obtain⟨a,cap,sz,l,rfl,ho,h1,h2⟩:=r
  simp only[b2i,ho]at h
  split at h
  ·rename_i hl
   simp only[Option.some.injEq]at h
   subst h
   simp only[a3d,a0p]
   refine⟨a,cap,by rw[hl],?_⟩
   rcases h2 hl.symm with⟨h0,_,_⟩|⟨b,hJ,rfl⟩
   ·rw[h0]at hl
    have:=List.eq_nil_of_length_eq_zero hl
    subst this
    exact⟨Nat.zero_le _,.inl rfl⟩
   ·have:=hI.ob id b cap _ hJ ho
    obtain⟨cur,e,_,h4,h5,h6,_⟩:=this
    exact⟨h6,.inr ⟨b,0,sz,g.C b,rfl,h5,by simp,h4⟩⟩
  ·cases h
 |arr id off len=>
  simp only[Rep]at r
  obtain⟨⟨o,ho,_⟩,b,c,cap,hJ,rfl,hlc⟩:=r
  simp only[b2i,ho]at h
  split at h
  ·rename_i c' hc
   simp only[Option.some.injEq]at hc
   subst hc
   split at h
   ·rename_i hl
    simp only[Option.some.injEq]at h
    subst h
    simp only[a3d,a0p]
    refine⟨_,cap,by simp;omega,by simp;omega,.inr ⟨b,off,1,((g.C b).drop off).take len,rfl,om,List.take_prefix _ _,?_⟩⟩
    have:=hI.ob id b c _ hJ ho
    exact e1w (d0t len (d0i off this))
   ·cases h
  ·cases h
 |_=>simp[b2i]at h
theorem e1h (hI:Inv cx g H w):∀ {l:List V} {ds:List D} {vs:List Value},e7e H l=some ds->a1p g H l vs->a1n g.C ds vs
 |[],ds,vs,h,r=>by simp only[e7e,Option.some.injEq]at h;subst h;simpa only[a1p,a1n] using r
 |v::l,ds,vs,h,r=>by
  simp only[a1p]at r
  obtain⟨y,ys,rfl,h1,h2,h3⟩:=r
  simp only[e7e]at h
  split at h
  ·rename_i x xs hx hxs
   simp only[Option.some.injEq]at h
   subst h
   simp only[a1n]
   have hrep:=c6f hI hx h2
   have hone:x.one=true:=by
    cases v with
    |d q=>simp only[b2i,Option.some.injEq]at hx;subst hx;cases q<;>first|rfl|cases h1
    |nils=>simp only[b2i,Option.some.injEq]at hx;subst hx;rfl
    |nile=>simp only[b2i,Option.some.injEq]at hx;subst hx;rfl
    |row id len=>simp only[b2i]at hx;split at hx<;>first|(split at hx<;>cases hx;rfl)|cases hx
    |arr id off len=>simp only[b2i]at hx;split at hx<;>first|(split at hx<;>cases hx;rfl)|cases hx
    |_=>simp[b2i]at hx
   refine⟨y,ys,rfl,hone,?_,e1h hI hxs h3⟩
   cases x<;>first|exact hrep|cases hone
  ·cases h
theorem c8d {v:V} {d:D} {x:Value} (hI:Inv cx g H w) (h:toD H v=some d) (r:Rep g H v x):a3d g.C d x:=by
 cases v with
 |agg l=>
  simp only[toD]at h
  obtain⟨ds,hd,rfl⟩:=Option.map_eq_some_iff.1 h
  simp only[Rep]at r
  obtain⟨cs,rfl,r⟩:=r
  exact⟨cs,rfl,e1h hI hd r⟩
 |_=>exact c6f hI (by simpa only[toD] using h) r
theorem f1x {v:V} {x:Value} (hI:Inv cx g H w) (r:Rep g H v x):Rep g H (toArg H v) x:=by
 unfold toArg
 split
 ·rename_i d hd;simp only[Rep];exact c8d hI hd r
 ·exact r
theorem e9k {v:V} {n:Nat} (u:v.und n=true):(toArg H v).und n=true:=by
 unfold toArg
 split
 ·rfl
 ·exact u
end
end Go.Vm
namespace Go.Vm
section
variable {P:Program} {cx:Cx} {nb:Nat} {g:Gh} {H:Hp} {w:World}
theorem c4d {x:Value} {v:V} (h:d6d x=some v):Rep g H v x/\v.und 0=true/\v.one=true:=by
 unfold d6d at h
 split at h<;>first|cases h|skip
 ·exact⟨by simp[Rep,a3d,a0p],rfl,rfl⟩
 ·exact⟨by simp[Rep,a3d,a0p],rfl,rfl⟩
 ·rename_i s
  refine⟨?_,rfl,rfl⟩
  simp only[Rep,a3d,a0p]
 ·exact⟨by simp[Rep],rfl,rfl⟩
 ·exact⟨by simp[Rep],rfl,rfl⟩
 ·exact⟨by simp[Rep],rfl,rfl⟩
 ·exact⟨by simp[Rep],rfl,rfl⟩
 ·exact⟨by simp[Rep],rfl,rfl⟩
theorem a4j:∀ {xs:List Value} {l:List V},b6g xs=some l->a1p g H l xs/\a0z 0 l=true
 |[],l,h=>by simp only[b6g,Option.some.injEq]at h;subst h;exact⟨by simp[a1p],rfl⟩
 |x::xs,l,h=>by
  simp only[b6g]at h
  split at h
  ·rename_i v vs hv hvs
   simp only[Option.some.injEq]at h
   subst h
   obtain⟨h1,h2,h3⟩:=c4d (g:=g) (H:=H) hv
   obtain⟨h4,h5⟩:=a4j hvs
   exact⟨by simp only[a1p];exact⟨x,xs,rfl,h3,h1,h4⟩,by simp only[a0z,h2,h5,Bool.and_self]⟩
  ·cases h
theorem a0x {N:Nat} {e:Env} {a:Act} (hI:Inv cx g H w) (hE:a9t g H N e a.tmps) {x:Operand} {vx:Opd} (h:a9q x=some vx) (hl:vx.lt N=true):
 Rep g H (evO cx e vx) (a.eval x)/\(evO cx e vx).und H.length=true:=by
 unfold a9q at h
 split at h
 ·rename_i t
  simp only[Option.some.injEq]at h
  subst h
  exact hE.2 t (by simpa [Opd.lt] using hl)
 ·rename_i c
  obtain⟨l,hl',rfl⟩:=Option.map_eq_some_iff.1 h
  obtain⟨h1,h2⟩:=a4j (g:=g) (H:=H) hl'
  have:=c0w h1
  refine⟨?_,V.a7f (Nat.zero_le _) _ (c1j h2)⟩
  simpa [evO,Act.eval] using this
 ·rename_i v _
  obtain⟨q,hq,rfl⟩:=Option.map_eq_some_iff.1 h
  obtain⟨h1,h2,_⟩:=c4d (g:=g) (H:=H) hq
  exact⟨h1,V.a7f (Nat.zero_le _) _ h2⟩
 ·rename_i i
  simp only[Option.some.injEq]at h
  subst h
  obtain⟨vs,h1,h2⟩:=hI.glob i
  refine⟨?_,rfl⟩
  simp only[evO,Rep,Act.eval]
  exact⟨i,0,vs,rfl,by simpa using h1,h2⟩
 ·simp only[Option.some.injEq]at h
  subst h
  refine⟨?_,rfl⟩
  simp only[evO,Rep,Act.eval]
  exact⟨#[],rfl,by simp[a0w]⟩
theorem b8o {N:Nat} {e:Env} {a:Act} (hI:Inv cx g H w) (hE:a9t g H N e a.tmps):∀ {xs:List Operand} {vs:List Opd},b3n xs=some vs->vs.all (Opd.lt N)=true->
 a0w g H (vs.map (evO cx e)) (xs.map a.eval)/\a0z H.length (vs.map (evO cx e))=true
 |[],vs,h,_=>by simp only[b3n,Option.some.injEq]at h;subst h;exact⟨by simp[a0w],rfl⟩
 |x::xs,vs,h,hl=>by
  simp only[b3n]at h
  split at h
  ·rename_i v vs' hv hvs
   simp only[Option.some.injEq]at h
   subst h
   simp only[List.all_cons,Bool.and_eq_true]at hl
   obtain⟨h1,h2⟩:=a0x hI hE hv hl.1
   obtain⟨h3,h4⟩:=b8o hI hE hvs hl.2
   exact⟨by simp only[List.map_cons,a0w];exact⟨_,_,rfl,h1,h3⟩,by simp only[List.map_cons,a0z,h2,h4,Bool.and_self]⟩
  ·cases h
theorem a6i (hI:Inv cx g H w):∀ {l:List V} {vs:List Value},a0w g H l vs->a0w g H (l.map (toArg H)) vs
 |[],vs,r=>by simpa only[a0w,List.map_nil] using r
 |v::l,vs,r=>by
  simp only[a0w,List.map_cons]at r⊢
  obtain⟨y,ys,rfl,h1,h2⟩:=r
  exact⟨y,ys,rfl,f1x hI h1,a6i hI h2⟩
theorem b4u {n:Nat}:∀ {l:List V},a0z n l=true->a0z n (l.map (toArg H))=true
 |[],_=>rfl
 |v::l,u=>by
  simp only[a0z,List.map_cons,Bool.and_eq_true]at u⊢
  exact⟨e9k u.1,b4u u.2⟩
theorem a7v:∀ {l l':List V} {vs vs':List Value},a0w g H l vs->a0w g H l' vs'->a0w g H (l++l') (vs++vs')
 |[],l',vs,vs',r,r'=>by simp only[a0w]at r;subst r;exact r'
 |v::l,l',vs,vs',r,r'=>by
  simp only[a0w]at r
  obtain⟨y,ys,rfl,h1,h2⟩:=r
  simp only[List.cons_append,a0w]
  exact⟨y,ys++vs',rfl,h1,a7v h2 r'⟩
theorem a5q {n:Nat}:∀ {l l':List V},a0z n l=true->a0z n l'=true->a0z n (l++l')=true
 |[],l',_,u'=>u'
 |v::l,l',u,u'=>by
  simp only[a0z,List.cons_append,Bool.and_eq_true]at u⊢
  exact⟨u.1,a5q u.2 u'⟩
theorem b0d {k:IntKind} {n:Int} {x:Value} (r:Rep g H (.d (.int k n)) x):x= .int k n:=by simp only[Rep,a3d,a0p]at r;cases r;rfl
theorem a9o {b:Bool} {x:Value} (r:Rep g H (.d (.bool b)) x):x= .bool b:=by simp only[Rep,a3d,a0p]at r;cases r;rfl
theorem c4a {s:List UInt8} {x:Value} (r:Rep g H (.d (.str s)) x):x= .string ⟨s.toArray⟩:=by simp only[Rep,a3d,a0p]at r;cases r;rfl
theorem a8s (k:IntKind) (n:Int):Rep g H (.d (.int k n)) (.int k n):=by simp[Rep,a3d,a0p]
theorem b1p (b:Bool):Rep g H (.d (.bool b)) (.bool b):=by simp[Rep,a3d,a0p]
theorem d7x (s:List UInt8):Rep g H (.d (.str s)) (.string ⟨s.toArray⟩):=by simp[Rep,a3d,a0p]
theorem g6j {op:BinOp} {vx vy r:V} {x y:Value} (t:TypeId) (h:a8q op vx vy=some r) (rx:Rep g H vx x) (ry:Rep g H vy y) (tx ty:Operand):
 ∃ z,(do eqGuard op t tx ty x y;binOp op t x y:Sem Value).run P w= .ok z w/\Rep g H r z/\r.und H.length=true:=by
 unfold a8q at h
 split at h
 ·rename_i k a k' b
  obtain rfl:=b0d rx
  obtain rfl:=b0d ry
  have hg:∀ op,(eqGuard op t tx ty (.int k a) (.int k' b)).run P w= .ok () w:=by
   intro op;cases op<;>simp[eqGuard]
  simp only[Sem.run_bind,hg,Result.andThen_ok]
  cases op<;>simp only at h
  case shl=>
   split at h<;>cases h
   refine⟨_,?_,a8s _ _,rfl⟩
   simp[binOp,Op.shift];omega
  case shr=>
   split at h<;>cases h
   refine⟨_,?_,a8s _ _,rfl⟩
   simp[binOp,Op.shift];omega
  case and|or|xor|andNot=>
   split at h
   ·rename_i hk;subst hk
    simp only[d1t,Option.map_some,Option.some.injEq]at h
    subst h
    exact⟨_,by simp[binOp,Op.intBits],a8s _ _,rfl⟩
   ·cases h
  case quo|rem=>
   split at h<;>cases h
   rename_i hk
   obtain⟨rfl,hb⟩:=hk
   exact⟨_,by simp[binOp,Op.intDiv,hb],a8s _ _,rfl⟩
  case add|sub|mul=>
   split at h<;>cases h
   rename_i hk;subst hk
   exact⟨_,by simp[binOp,Op.intArith],a8s _ _,rfl⟩
  all_goals
   split at h<;>cases h
   rename_i hk;subst hk
   exact⟨_,by simp[binOp,Op.intCmp],b1p _,rfl⟩
 ·rename_i a b
  obtain rfl:=c4a rx
  obtain rfl:=c4a ry
  have hg:∀ op,(eqGuard op t tx ty (.string ⟨a.toArray⟩) (.string ⟨b.toArray⟩)).run P w= .ok () w:=by
   intro op;cases op<;>simp[eqGuard]
  simp only[Sem.run_bind,hg,Result.andThen_ok]
  cases op<;>simp only at h<;>first|cases h|skip
  case add=>
   split at h<;>cases h
   rename_i hl
   refine⟨.string ⟨(a++b).toArray⟩,?_,d7x _,rfl⟩
   have hs:¬ ((((⟨a.toArray⟩:ByteArray).size+(⟨b.toArray⟩:ByteArray).size:Nat):Int) > IntKind.i64.max):=by
    simp[ByteArray.size,IntKind.max,IntKind.signed,IntKind.bits];omega
   simp only[binOp,Op.stringOp,if_neg hs,Sem.run_pure]
   first|(congr 2;done)|(congr 2;apply ByteArray.ext;simp)
  ·exact⟨.bool (a==b),by simp[binOp,Op.stringOp],b1p _,rfl⟩
  ·exact⟨.bool (!(a==b)),by simp[binOp,Op.stringOp],b1p _,rfl⟩
 ·cases h
end
end Go.Vm
