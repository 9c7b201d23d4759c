import GoSem.Dispatch
import Derived.KernelRfl
import Derived.Laws.AppendOwn
import Derived.Laws.Sem
import Derived.Calls
import Derived.WalkKit
import Derived.Laws.StructEq
set_option linter.unusedVariables false
set_option linter.unusedSimpArgs false
theorem om {P:Prop} (h:P:=by(omega)):P:=h
theorem kr {P:Prop} (h:P:=by(kernel_rfl)):P:=h
namespace Go.Vm
inductive D where
 |bool (b:Bool)
 |int (k:IntKind) (n:Int)
 |str (s:List UInt8)
 |sl (l:List D)
 |agg (l:List D)
 deriving Inhabited
inductive V where
 |d (x:D)
 |agg (l:List V)
 |tup (l:List V)
 |nils
 |row (id len:Nat)
 |arr (id off len:Nat)
 |ptr (id off:Nat)
 |ro (l:List D) (off:Nat)
 |fn (f:Nat) (c:List V)
 |fm (f:Nat) (a:List V)
 |nul
 |nof
 |ifc (isnil:Bool)
 |raw (x:Value)
 |nmp
 |nile
 |mp (id:Nat)
 |undef
 deriving Inhabited
inductive Ob where
 |box (c:List V)
 |frz (c:List D)
 |row (sz:Nat) (l:List D)
 |map (l:List (D×D))
 deriving Inhabited
inductive Opd where
 |t (i:Nat)
 |c (v:V)
 |g (i:Nat)
 |f (i:Nat)
 deriving Inhabited
inductive VOp where
 |mv (x:Opd)
 |pick (c a b:Opd)
 |zbox (z:List V)
 |box (x:Opd)
 |build (z:List V) (ps:List (Nat×Nat×Opd))
 |bslice (sz len:Nat) (ps:List Opd)
 |brow (sz:Nat)
 |ld (n:Option Nat) (x:Opd)
 |st (n:Nat) (a x:Opd)
 |nilck (x:Opd)
 |bin (op:BinOp) (x y:Opd)
 |eqa (neg:Bool) (ks:List Nat) (x y:Opd)
 |eqb (neg:Bool) (x y:Opd)
 |isnil (neg:Bool) (x:Opd)
 |un (op:UnOp) (x:Opd)
 |conv (k:IntKind) (x:Opd)
 |mkfn (f:Nat) (caps:List Opd)
 |mkfm (f:Nat) (first:List Opd)
 |fld (off:Nat) (n:Option Nat) (x:Opd)
 |fadr (off:Nat) (x:Opd)
 |iadr (sz:Nat) (x i:Opd)
 |iadra (len sz:Nat) (x i:Opd)
 |idx (x i:Opd)
 |slcs (x:Opd) (lo hi:Option Opd)
 |slc (sz:Nat) (x:Opd) (lo hi:Option Opd)
 |ext (x:Opd) (i:Nat)
 |call (f:Nat) (args:List Opd)
 |callv (f:Opd) (args:List Opd)
 |len (str:Bool) (x:Opd)
 |convs (x:Opd)
 |app (sz bytes:Nat) (x y:Opd)
 |msl (sz bytes:Nat) (z:List V) (n:Opd)
 |mm (max:Bool) (x y:Opd)
 |abs (len:Nat) (ps:List Opd)
 |mark (x:Opd)
 |mkm
 |no
 |b9z (kk:Nat) (m k v:Opd)
 |mget (kk:Nat) (ok:Bool) (z:D) (m k:Opd)
 |ment (kk:Nat) (z:D) (m k:Opd)
 |mest (m s v:Opd)
 deriving Inhabited
structure a0c where
 dst:Option Nat
 op:VOp
 guard:Option (Nat×Bool):=none
 deriving Inhabited
inductive a0m where
 |skip
 |reg (ops:List a0c)
 |draw (m:Nat) (ops:List a0c)
 |seq (a b:a0m)
 |cond (c:Opd) (a b:a0m)
 |block (id:Nat) (b:a0m)
 |loop (keep:List Nat) (b:a0m)
 |scope (b:a0m)
 |exit (id:Nat)
 |ret
 |newrow (sz slot:Nat)
 |bindrow (sz slot off:Nat)
 |freeze (slot:Nat)
 |mkrow (sz:Nat)
 |bindto (slot off back:Nat)
 deriving Inhabited
inductive d2j where
 |tmp (t:Nat)
 |cell (t:Nat) (n:Option Nat)
 deriving Inhabited
structure VFn where
 np:Nat
 nt:Nat
 body:a0m
 res:List d2j
 keep:Bool:=false
inductive Ex where
 |nrm
 |exit (id:Nat)
 |ret
abbrev Env:=List (Nat×V)
abbrev Hp:=List Ob
def D.cells:D->List D
 | .agg l=>l
 |x=>[x]
def V.cells:V->List V
 | .d (.agg l)=>l.map V.d
 | .agg l=>l
 |x=>[x]
def V.one:V->Bool
 | .agg _| .tup _| .d (.agg _)| .undef| .raw _=>false
 |_=>true
def D.one:D->Bool
 | .agg _=>false
 |_=>true
def b4x:List V->Option (List D)
 |[]=>some []
 | .d x::r=>(b4x r).map (x:: ·)
 |_=>none
def a9z (l:List V):V:=match b4x l with|some ds=> .d (.agg ds)|none=> .agg l
def a9y (H:Hp):V->Option D
 | .d x=>some x
 | .nils=>some (.sl [])
 | .nile=>some (.sl [])
 | .row id len=>match H[id]? with|some (.row _ l)=>if l.length=len then some (.sl l) else none|_=>none
 | .arr id off len=>match H[id]? with|some (.frz c)=>if off+len<=c.length then some (.sl ((c.drop off).take len)) else none|_=>none
 |_=>none
def d8b (H:Hp):List V->Option (List D)
 |[]=>some []
 |v::r=>match a9y H v,d8b H r with|some x,some xs=>some (x::xs)|_,_=>none
def toD (H:Hp):V->Option D
 | .agg l=>(d8b H l).map .agg
 |v=>a9y H v
def toArg (H:Hp) (v:V):V:=match toD H v with|some x=> .d x|none=>v
def a1g:Env->Nat->V
 |[],_=> .undef
 |(k,v)::r,i=>if k=i then v else a1g r i
def a1d (ks:List Nat) (e:Env):Env:=ks.map fun k=>(k,a1g e k)
mutual
/-- Everything that a value leads to stands below n. -/
def V.und (n:Nat):V->Bool
 | .row id _=>decide (id < n)
 | .arr id _ _=>decide (id < n)
 | .ptr id _=>decide (id < n)
 | .mp id=>decide (id < n)
 | .agg l=>a1a n l
 | .tup l=>a1a n l
 | .fn _ l=>a1a n l
 | .fm _ l=>a1a n l
 |_=>true
def a1a (n:Nat):List V->Bool
 |[]=>true
 |v::r=>V.und n v && a1a n r
end
def cut (n:Nat) (e:Env):Env:=e.map fun(k,v)=>(k,if v.und n then v else .undef)
def d0v (op:BinOp) (k:IntKind) (x y:Int):Option Int:=
 let a:=BitVec.ofInt k.bits x
 let b:=BitVec.ofInt k.bits y
 match op with
 | .and=>some (k.wrap (a &&& b).toNat)
 | .or=>some (k.wrap (a|||b).toNat)
 | .xor=>some (k.wrap (a ^^^ b).toNat)
 | .andNot=>some (k.wrap (a &&& ~~~b).toNat)
 |_=>none
def a9i (op:BinOp):V->V->Option V
 | .d (.int k a),.d (.int k' b)=>
  match op with
  | .shl=>if 0<=b then some (.d (.int k (k.wrap (a*2 ^ (min b.toNat k.bits))))) else none
  | .shr=>if 0<=b then some (.d (.int k (a.fdiv (2 ^ (min b.toNat k.bits))))) else none
  | .add=>if k=k' then some (.d (.int k (k.wrap (a+b)))) else none
  | .sub=>if k=k' then some (.d (.int k (k.wrap (a - b)))) else none
  | .mul=>if k=k' then some (.d (.int k (k.wrap (a*b)))) else none
  | .quo=>if k=k'/\b≠0 then some (.d (.int k (k.wrap (a.tdiv b)))) else none
  | .rem=>if k=k'/\b≠0 then some (.d (.int k (a.tmod b))) else none
  | .and=>if k=k' then(d0v .and k a b).map fun n=> .d (.int k n) else none
  | .or=>if k=k' then(d0v .or k a b).map fun n=> .d (.int k n) else none
  | .xor=>if k=k' then(d0v .xor k a b).map fun n=> .d (.int k n) else none
  | .andNot=>if k=k' then(d0v .andNot k a b).map fun n=> .d (.int k n) else none
  | .eql=>if k=k' then some (.d (.bool (a==b))) else none
  | .neq=>if k=k' then some (.d (.bool (a !=b))) else none
  | .lss=>if k=k' then some (.d (.bool (decide (a < b)))) else none
  | .leq=>if k=k' then some (.d (.bool (decide (a<=b)))) else none
  | .gtr=>if k=k' then some (.d (.bool (decide (b < a)))) else none
  | .geq=>if k=k' then some (.d (.bool (decide (b<=a)))) else none
 | .d (.str a),.d (.str b)=>
  match op with
  | .add=>if a.length+b.length<=9223372036854775807 then some (.d (.str (a++b))) else none
  | .eql=>some (.d (.bool (a==b)))
  | .neq=>some (.d (.bool !(a==b)))
  |_=>none
 |_,_=>none
def eq1:D->D->Bool
 | .bool a,.bool b=>a==b
 | .int _ a,.int _ b=>a==b
 | .str a,.str b=>a==b
 |_,_=>false
def eqL:List D->List D->Bool
 |[],[]=>true
 |a::x,b::y=>eq1 a b && eqL x y
 |_,_=>false
def kindOk:List Nat->List D->List D->Bool
 |[],[],[]=>true
 |0::ks,.bool _::a,.bool _::b=>kindOk ks a b
 |1::ks,.int k _::a,.int k' _::b=>k==k' && kindOk ks a b
 |2::ks,.str _::a,.str _::b=>kindOk ks a b
 |_,_,_=>false
def unV (op:UnOp):V->Option V
 | .d (.int k n)=>match op with
   | .neg=>some (.d (.int k (k.wrap (0 - n))))
   |_=>none
 | .d (.bool b)=>match op with
   | .not=>some (.d (.bool !b))
   |_=>none
 |_=>none
def putAt:List V->Nat->List V->List V
 |cs,_,[]=>cs
 |[],_,_=>[]
 |_::cs,0,v::vs=>v::putAt cs 0 vs
 |c::cs,n+1,vs=>c::putAt cs n vs
def b9p (z:List V):List (Nat×Nat×V)->Option (List V)
 |[]=>some z
 |(off,n,v)::r=>if v.cells.length=n/\off+n<=z.length then b9p (putAt z off v.cells) r else none
def a9s (H:Hp):V->Option (List V×Nat)
 | .ptr id off=>match H[id]? with
   |some (.box c)=>some (c,off)
   |some (.frz c)=>some (c.map V.d,off)
   |_=>none
 | .ro l off=>some (l.map V.d,off)
 |_=>none
def a6e (n:Option Nat) (c:List V) (off:Nat):Option V:=
 match n with
 |none=>c[off]?
 |some n=>if off+n<=c.length then some (a9z ((c.drop off).take n)) else none
def b7o (H:Hp) (n:Option Nat) (p:V):Option V:=
 match a9s H p with
 |none=>none
 |some (c,off)=>a6e n c off
def b0o (c:List V) (off:Nat):List V->Bool
 |[.row i _]=>match c[off]? with|some (.row j _)=>Nat.beq i j|_=>false
 |_=>false
def c1z (b:Nat) (H:Hp) (n:Nat) (p x:V):Option Hp:=
 match p with
 | .ptr id off=>match H[id]? with
   |some (.box c)=>if x.cells.length=n/\off+n<=c.length/\x.cells.all V.one/\(a1a id x.cells||decide (b<=id)||b0o c off x.cells) then some (H.set id (.box (putAt c off x.cells))) else none
   |_=>none
 |_=>none
def a4d (v:V):Option Nat:=match v with| .d (.int _ n)=>if 0<=n then some n.toNat else none|_=>none
def c9l (v:V):Option Nat:=match v with
 | .d (.sl l)=>some l.length
 | .nils=>some 0
 | .nile=>some 0
 | .row _ n=>some n
 | .arr _ _ n=>some n
 |_=>none
def lsize (H:Hp) (v:V):Option (List D):=match a9y H v with|some (.sl l)=>some l|_=>none
def roomy (n bytes:Nat):Prop:=n*bytes<=140737488355328/\n<=9223372036854775807
instance (n b:Nat):Decidable (roomy n b):=inferInstanceAs (Decidable (_/\_))
def a8u:Nat->D->Bool
 |0,.bool _=>true
 |1,.int .i64 _=>true
 |2,.str _=>true
 |_,_=>false
def a2j (kk:Nat) (l:List (D×D)):Bool:=l.all fun p=>a8u kk p.1
def a4m (k:D):List (D×D)->Option D
 |[]=>none
 |(a,v)::r=>if eq1 k a then some v else a4m k r
def a5w (k:D):List (D×D)->Option Nat
 |[]=>none
 |(a,_)::r=>if eq1 k a then some 0 else(a5w k r).map (· +1)
def c1u (k v:D):List (D×D)->List (D×D)
 |[]=>[(k,v)]
 |(a,x)::r=>if eq1 k a then(a,v)::r else(a,x)::c1u k v r
def b9z (i:Nat) (v:D) (l:List (D×D)):List (D×D):=l.modify i fun p=>(p.1,v)
abbrev Orc:=Nat->List V->Hp->Option (V×Hp)
structure Cx where
 gv:Nat->List D
 fx:Nat->Option Obj:=fun _=>none
def evO (cx:Cx) (e:Env):Opd->V
 | .t i=>a1g e i
 | .c v=>v
 | .g i=> .ro (cx.gv i) 0
 | .f i=> .fn i []
def h6j (ok:Bool) (z:D) (r:Option D):V:=match ok,r with
 |true,some v=> .tup [.d v,.d (.bool true)]
 |true,none=> .tup [.d z,.d (.bool false)]
 |false,some v=> .d v
 |false,none=> .d z
def a0p (cx:Cx) (orc:Orc) (b:Nat) (e:Env) (H:Hp):VOp->Option (V×Hp)
 | .mv x=>some (evO cx e x,H)
 | .pick c a b=>match evO cx e c with
   | .d (.bool t)=>some (if t then evO cx e a else evO cx e b,H)
   |_=>none
 | .zbox z=>some (.ptr H.length 0,H++[.box z])
 | .box x=>let c:=(evO cx e x).cells;if c.all V.one then some (.ptr H.length 0,H++[.box c]) else none
 | .build z ps=>if ps.all fun p=>(evO cx e p.2.2).cells.all V.one then(b9p z (ps.map fun p=>(p.1,p.2.1,evO cx e p.2.2))).map fun c=>(a9z c,H) else none
 | .bslice sz len ps=>
  match toDs' cx e H ps with
  |some l=>if l.length=len/\l.all (fun x=>x.cells.length==sz)/\0 < sz/\len*sz<=16777216 then some (.d (.sl l),H) else none
  |none=>none
 | .brow sz=>if 0 < sz then some (.nile,H) else none
 | .abs len ps=>
  match toDs' cx e H ps with
  |some l=>if l.length=len/\l.all D.one/\len<=16777216 then some (.arr H.length 0 len,H++[.frz l]) else none
  |none=>none
 | .mark x=>match evO cx e x with
   | .arr id off len=>match H[id]? with
     |some (.frz _)=>some (.arr id off len,H)
     |_=>none
   |_=>none
 | .ld n x=>(b7o H n (evO cx e x)).map fun v=>(v,H)
 | .st n a x=>(c1z b H n (evO cx e a) (evO cx e x)).map fun H'=>(.undef,H')
 | .nilck x=>match evO cx e x with
   | .ptr id off=>some (.ptr id off,H)
   | .fn f c=>some (.fn f c,H)
   | .fm f a=>some (.fm f a,H)
   |_=>none
 | .bin op x y=>(a9i op (evO cx e x) (evO cx e y)).map fun v=>(v,H)
 | .eqa neg ks x y=>match evO cx e x,evO cx e y with
   | .d (.agg a),.d (.agg b)=>if kindOk ks a b then some (.d (.bool (if neg then !eqL a b else eqL a b)),H) else none
   |_,_=>none
 | .eqb neg x y=>match evO cx e x,evO cx e y with
   | .d (.bool a),.d (.bool b)=>some (.d (.bool (if neg then !(a==b) else a==b)),H)
   |_,_=>none
 | .isnil neg x=>match evO cx e x with
   | .ifc b=>some (.d (.bool (if neg then !b else b)),H)
   |_=>none
 | .un op x=>(unV op (evO cx e x)).map fun v=>(v,H)
 | .conv k x=>match evO cx e x with
   | .d (.int _ n)=>some (.d (.int k (k.wrap n)),H)
   |_=>none
 | .mkfn f caps=>some (.fn f (caps.map (evO cx e)),H)
 | .mkfm f first=>some (.fm f (first.map (evO cx e)),H)
 | .fld off n x=>match evO cx e x with
   | .d (.agg c)=>(a6e n (c.map V.d) off).map fun v=>(v,H)
   | .agg c=>(a6e n c off).map fun v=>(v,H)
   |_=>none
 | .fadr off x=>match evO cx e x with
   | .ptr id o=>some (.ptr id (o+off),H)
   | .ro l o=>some (.ro l (o+off),H)
   |_=>none
 | .iadr sz x i=>match a4d (evO cx e i)with
   |none=>none
   |some n=>match evO cx e x with
    | .arr id off len=>if n < len then some (.ptr id (off+n*sz),H) else none
    |v=>match lsize H v with
     |some l=>match l[n]? with
      |some y=>if y.cells.length=sz then some (.ro y.cells 0,H) else none
      |none=>none
     |none=>none
 | .iadra len sz x i=>match a4d (evO cx e i)with
   |none=>none
   |some n=>if n < len then match evO cx e x with
    | .ptr id o=>some (.ptr id (o+n*sz),H)
    | .ro l o=>some (.ro l (o+n*sz),H)
    |_=>none else none
 | .idx x i=>match a4d (evO cx e i),evO cx e x with
   |some n,.d (.str s)=>(s[n]?).map fun b=>(.d (.int .u8 b.toNat),H)
   |_,_=>none
 | .slcs x lo hi=>match evO cx e x,bound cx e 0 lo with
   | .d (.str s),some l=>match bound cx e s.length hi with
     |some h=>if l<=h/\h<=s.length then some (.d (.str ((s.take h).drop l)),H) else none
     |none=>none
   |_,_=>none
 | .slc sz x lo hi=>match lsize H (evO cx e x),bound cx e 0 lo with
   |some s,some l=>match bound cx e s.length hi with
    |some h=>if l<=h/\h<=s.length/\(lo.isNone||s.all (fun y=>y.cells.length==sz))=true then some (.d (.sl ((s.take h).drop l)),H) else none
    |none=>none
   |_,_=>none
 | .ext x i=>match evO cx e x with
   | .tup l=>(l[i]?).map fun v=>(v,H)
   |_=>none
 | .call f args=>orc f (args.map fun x=>toArg H (evO cx e x)) H
 | .callv f args=>match evO cx e f with
   | .fn f c=>orc f (args.map (fun x=>toArg H (evO cx e x))++c) H
   | .fm f a=>orc f (a++args.map (fun x=>toArg H (evO cx e x))) H
   |_=>none
 | .len str x=>match str,evO cx e x with
   |true,.d (.str s)=>some (.d (.int .i64 s.length),H)
   |false,v=>(c9l v).map fun(n:Nat)=>(V.d (.int .i64 (n:Int)),H)
   |_,_=>none
 | .convs x=>match evO cx e x with
   | .d (.str s)=>some (.d (.str s),H)
   |_=>none
 | .app sz bytes x y=>match lsize H (evO cx e y)with
   |none=>none
   |some ys=>if ys.all (fun y=>y.cells.length==sz)/\0 < sz then
    (match evO cx e x with
      | .nile=>if ys=[] then some (.nile,H) else if roomy ys.length bytes then some (.row H.length ys.length,H++[.row sz ys]) else none
      | .nils=>if ys=[] then some (.nils,H) else if roomy ys.length bytes then some (.row H.length ys.length,H++[.row sz ys]) else none
      | .row id len=>match H[id]? with
        |some (.row sz' l)=>if sz'=sz/\l.length=len/\roomy (len+ys.length) bytes then some (.row id (len+ys.length),H.set id (.row sz (l++ys))) else none
        |_=>none
      |_=>none) else none
 | .msl sz bytes z n=>match evO cx e n with
   | .d (.int _ n)=>if 0<=n/\roomy n.toNat bytes/\z.length=1/\sz=1 then some (.arr H.length 0 n.toNat,H++[.box (List.replicate n.toNat (z.headD .undef))]) else none
   |_=>none
 | .no=>none
 | .mkm=>some (.mp H.length,H++[.map []])
 | .b9z kk m k v=>match evO cx e m,evO cx e k,toD H (evO cx e v)with
   | .mp id,.d k,some v=>match H[id]? with
     |some (.map l)=>if a8u kk k && a2j kk l then some (.undef,H.set id (.map (c1u k v l))) else none
     |_=>none
   |_,_,_=>none
 | .mget kk ok z m k=>match evO cx e m,evO cx e k with
   | .mp id,.d k=>match H[id]? with
     |some (.map l)=>if a8u kk k && a2j kk l then some (h6j ok z (a4m k l),H) else none
     |_=>none
   |_,_=>none
 | .ment kk z m k=>match evO cx e m,evO cx e k with
   | .mp id,.d k=>match H[id]? with
     |some (.map l)=>if a8u kk k && a2j kk l then(match a5w k l with
      |some i=>(l[i]?).map fun p=>(.tup [.d p.2,.d (.int .i64 i)],H)
      |none=>some (.tup [.d z,.d (.int .i64 l.length)],H.set id (.map (l++[(k,z)])))) else none
     |_=>none
   |_,_=>none
 | .mest m s v=>match evO cx e m,evO cx e s,toD H (evO cx e v)with
   | .mp id,.d (.int _ n),some v=>match H[id]? with
     |some (.map l)=>if 0<=n/\n.toNat < l.length then some (.undef,H.set id (.map (b9z n.toNat v l))) else none
     |_=>none
   |_,_,_=>none
 | .mm mx x y=>match evO cx e x,evO cx e y with
   | .d (.int k a),.d (.int k' b)=>if k=k' then some (.d (.int k (if mx then max a b else min a b)),H) else none
   |_,_=>none
where
 toDs' (cx:Cx) (e:Env) (H:Hp):List Opd->Option (List D)
  |[]=>some []
  |x::r=>match toD H (evO cx e x),toDs' cx e H r with|some y,some ys=>some (y::ys)|_,_=>none
 bound (cx:Cx) (e:Env) (dflt:Nat):Option Opd->Option Nat
  |none=>some dflt
  |some x=>a4d (evO cx e x)
structure St where
 e:Env
 h:Hp
 b:Nat
def a6w (dst:Option Nat) (v:V) (e:Env):Env:=match dst with|some d=>(d,v)::e|none=>e
def lay (dst:Option Nat) (e:Env) (b:Nat) (r:Option (V×Hp)):Option St:=r.map fun x=>⟨a6w dst x.1 e,x.2,b⟩
def grd (v:V) (b:Bool) (dst:Option Nat) (s:St) (r:Option (V×Hp)):Option St:=
 match v with
 | .d (.bool t)=>if t=b then lay dst s.e s.b r else some ⟨a6w dst (.tup []) s.e,s.h,s.b⟩
 | .tup []=>some ⟨a6w dst (.tup []) s.e,s.h,s.b⟩
 |_=>none
def a0b (cx:Cx) (orc:Orc) (o:a0c) (s:St):Option St:=
 match o.guard with
 |none=>lay o.dst s.e s.b (a0p cx orc s.b s.e s.h o.op)
 |some (g,b)=>grd (a1g s.e g) b o.dst s (a0p cx orc s.b s.e s.h o.op)
def a0k (cx:Cx) (orc:Orc):List a0c->St->Option St
 |[],s=>some s
 |o::r,s=>(a0b cx orc o s).bind (a0k cx orc r)
def a5x (n:Nat):Hp->Bool
 |[]=>true
 | .box c::l=>a1a n c && a5x n l
 |_::l=>a5x n l
open Classical in
noncomputable def grew (h h':Hp):Bool:=decide (∃ l,h'=h++l) && a5x h'.length (h'.drop h.length)
def b6g (d:Option Nat) (s:St):Bool:=match d with|some d=>(a1g s.e d).und s.h.length|none=>true
noncomputable def a2d (cx:Cx) (orc:Orc):Nat->List a0c->St->Option St
 |_,[],s=>some s
 |0,r,s=>a0k cx orc r s
 |m+1,o::r,s=>(a0b cx orc o s).bind fun s'=>if(grew s.h s'.h && b6g o.dst s')=true then a2d cx orc m r s' else none
end Go.Vm
namespace Go.Vm
structure Ann where
 keep:Nat->List Nat
 ghost:Nat->List a0m
def d5h:Value->Option V
 | .bool b=>some (.d (.bool b))
 | .int k n=>some (.d (.int k n))
 | .string s=>some (.d (.str s.data.toList))
 | .pointer none=>some .nul
 | .slice none 0 0=>some .nils
 | .nilFunc=>some .nof
 | .nilIface=>some (.ifc true)
 | .map none=>some .nmp
 |_=>none
def b4e:List Value->Option (List V)
 |[]=>some []
 |x::r=>match d5h x,b4e r with|some v,some vs=>some (v::vs)|_,_=>none
def a8q:Operand->Option Opd
 | .tmp t=>some (.t t)
 | .const (.agg c)=>(b4e c.toList).map fun l=> .c (a9z l)
 | .const v=>(d5h v).map .c
 | .global g=>some (.g g)
 | .func f=>some (.f f)
def h2t:Option Operand->Option (Option Opd)
 |none=>some none
 |some x=>(a8q x).map some
def b5w:List Operand->Option (List Opd)
 |[]=>some []
 |x::r=>match a8q x,b5w r with|some v,some vs=>some (v::vs)|_,_=>none
def zeroCells (P:Program) (t:TypeId):Option (List V):=
 match P.info? t with
 |some i=>match i.zero with|some z=>b4e z.cells.toList|none=>none
 |none=>none
def sizeT (P:Program) (t:TypeId):Option Nat:=(P.info? t).map (·.size)
def aggT (P:Program) (t:TypeId):Option Bool:=(P.underlying t).map fun
 | .struct _| .array _ _=>true
 |_=>false
def b3t (P:Program) (t:TypeId):Option (Option Nat):=
 match aggT P t with
 |some true=>(sizeT P t).map some
 |some false=>if sizeT P t=some 1 then some none else none
 |none=>none
def c8j (fs:Array Field) (P:Program):List (Nat×Operand)->Option (List (Nat×Nat×Opd))
 |[]=>some []
 |(i,x)::r=>match fs[i]?,a8q x,c8j fs P r with
  |some f,some v,some vs=>(sizeT P f.type).map fun n=>(f.offset,n,v)::vs
  |_,_,_=>none
def c0g (P:Program):Nat->List Field->Option (List Nat)
 |_,[]=>some []
 |n,f::r=>
  if f.offset=n/\f.name≠ "_" then
   match P.underlying f.type,c0g P (n+1) r with
   |some .bool,some ks=>some (0::ks)
   |some (.int _),some ks=>some (1::ks)
   |some .string,some ks=>some (2::ks)
   |_,_=>none
  else none
def d3e (P:Program) (t:TypeId):Option (List Nat):=
 match P.underlying t with
 |some (.struct fs)=>if P.stoodInHeld t=false/\P.eqGuardType P.depth t=false then c0g P 0 fs.toList else none
 |_=>none
def b4r:Nat->List (Nat×Operand)->Bool
 |_,[]=>true
 |n,(i,_)::r=>i==n && b4r (n+1) r
def e4u (P:Program) (t:TypeId):Option D:=
 match(P.info? t).bind (·.zero)with
 |some (.agg c)=>((b4e c.toList).bind b4x).map .agg
 |some v=>match d5h v with
  |some (.d x)=>some x
  |_=>none
 |none=>none
def f7o (P:Program) (t:TypeId):Option Nat:=match P.underlying t with
 |some .bool=>some 0
 |some (.int .i64)=>some 1
 |some .string=>some 2
 |_=>none
def e3p (P:Program):Op->Option VOp
 | .move x| .assign x=>(a8q x).map .mv
 | .pick c a b=>match a8q c,a8q a,a8q b with|some c,some a,some b=>some (.pick c a b)|_,_,_=>none
 | .alloc t=>(zeroCells P t).map .zbox
 | .box _ x=>(a8q x).map .box
 | .build t ps=>match P.underlying t,zeroCells P t with
   |some (.struct fs),some z=>if fs.toList.all (fun f=>(P.info? f.type).isSome) then(c8j fs P ps.toList).map fun ps=> .build z ps else none
   |_,_=>none
 | .buildSlice t len ps=>match P.underlying t with
   |some (.slice e)=>match sizeT P e,b5w (ps.toList.map (·.2))with
    |some sz,some xs=>if b4r 0 ps.toList && xs.length==len && (zeroCells P e).isSome then(match P.underlying e with
     |some (.int .u8)=>if sz=1 then some (.abs len xs) else none
     |_=>if len=0/\0 < sz then some (.brow sz) else some (.bslice sz len xs)) else none
    |_,_=>none
   |_=>none
 | .load t a=>match b3t P t,a8q a with|some n,some a=>some (.ld n a)|_,_=>none
 | .store t a x=>match sizeT P t,a8q a,a8q x with|some n,some a,some x=>some (.st n a x)|_,_,_=>none
 | .nilCheck x=>(a8q x).map .nilck
 | .binOp op t x y _=>match a8q x,a8q y with
   |some a,some b=>
    match P.underlying t with
    |some (.int _)|some .string=>some (.bin op a b)
    |some .bool=>(match op with
     | .eql=>some (.eqb false a b)
     | .neq=>some (.eqb true a b)
     |_=>none)
    |some (.struct _)=>(match op with
     | .eql=>(d3e P t).map fun ks=> .eqa false ks a b
     | .neq=>(d3e P t).map fun ks=> .eqa true ks a b
     |_=>none)
    |some (.interface _)=>(match op,y with
     | .eql,.const .nilIface=>some (.isnil false a)
     | .neq,.const .nilIface=>some (.isnil true a)
     |_,_=>none)
    |_=>none
   |_,_=>none
 | .unOp op _ x=>(a8q x).map (.un op)
 | .convert s t x=>match P.underlying s,P.underlying t,a8q x with
   |some (.int _),some (.int k),some x=>some (.conv k x)
   |some .string,some .string,some x=>some (.convs x)
   |some (.slice e),_,some x=>if s=t then(match P.underlying e with|some (.int .u8)=>some (.mark x)|_=>none) else none
   |_,_,_=>none
 | .makeFunc (.func f) first caps=>if first.isEmpty then(b5w caps.toList).map (.mkfn f) else if caps.isEmpty then(b5w first.toList).map (.mkfm f) else none
 | .makeSlice t (.tmp l) (.tmp c)=>match P.underlying t with
   |some (.slice e)=>match P.info? e,zeroCells P e with
    |some i,some z=>if l==c then some (.msl i.size i.bytes z (.t l)) else none
    |_,_=>none
   |_=>none
 | .slice t x lo hi none=>match a8q x,h2t lo,h2t hi with
   |some x,some lo,some hi=>match P.underlying t with
    |some .string=>some (.slcs x lo hi)
    |some (.slice e)=>(sizeT P e).map fun sz=> .slc sz x lo hi
    |_=>none
   |_,_,_=>none
 | .fieldAddr s x f=>match P.underlying s,a8q x with
   |some (.struct fs),some x=>match fs[f]? with
    |some f=>if sizeT P f.type=some 0 then none else if(sizeT P f.type).isNone then none else some (.fadr f.offset x)
    |none=>none
   |_,_=>none
 | .field t x f=>match P.underlying t,a8q x with
   |some (.struct fs),some x=>match fs[f]? with
    |some f=>(b3t P f.type).map fun n=> .fld f.offset n x
    |none=>none
   |_,_=>none
 | .indexAddr t x i=>match P.underlying t,a8q x,a8q i with
   |some (.slice e),some x,some i=>(sizeT P e).map fun sz=> .iadr sz x i
   |some (.array n e),some x,some i=>(sizeT P e).map fun sz=> .iadra n sz x i
   |_,_,_=>none
 | .index t x i=>match P.underlying t,a8q x,a8q i with
   |some .string,some x,some i=>some (.idx x i)
   |_,_,_=>none
 | .extract x i=>(a8q x).map fun x=> .ext x i
 | .makeMap _ none=>some .mkm
 | .mapUpdate t m k x| .insert t m k x=>match P.underlying t,a8q m,a8q k,a8q x with
   |some (.map kt _),some m,some k,some x=>(f7o P kt).map fun kk=> .b9z kk m k x
   |_,_,_,_=>none
 | .lookup t m k ok=>match P.underlying t,a8q m,a8q k with
   |some (.map kt et),some m,some k=>match f7o P kt,e4u P et with
    |some kk,some z=>some (.mget kk ok z m k)
    |_,_=>none
   |_,_,_=>none
 | .mapEntry t m k=>match P.underlying t,a8q m,a8q k with
   |some (.map kt et),some m,some k=>match f7o P kt,e4u P et with
    |some kk,some z=>some (.ment kk z m k)
    |_,_=>none
   |_,_,_=>none
 | .entryStore t m s x=>match a8q m,a8q s,a8q x with
   |some m,some s,some x=>some (.mest m s x)
   |_,_,_=>none
 | .call c=>match c.callee with
   | .value (.func f)=>(b5w c.args.toList).map (.call f)
   | .value (.tmp t)=>(b5w c.args.toList).map (.callv (.t t))
   | .builtin .len=>match c.args.toList,c.argTypes.toList with
     |[x],[t]=>match P.underlying t with
      |some .string=>(a8q x).map (.len true)
      |some (.slice _)=>(a8q x).map (.len false)
      |_=>none
     |_,_=>none
   | .builtin .append=>match c.args.toList,c.argTypes.toList with
     |[x,y],[t,u]=>match P.underlying t,P.underlying u,a8q x,a8q y with
      |some (.slice e),some (.slice _),some x,some y=>match P.info? e with
       |some i=>if(zeroCells P e).map (·.length)=some i.size/\t=u then some (.app i.size i.bytes x y) else none
       |none=>none
      |_,_,_,_=>none
     |_,_=>none
   | .builtin .max=>match c.args.toList with|[x,y]=>(match a8q x,a8q y with|some x,some y=>some (.mm true x y)|_,_=>none)|_=>none
   | .builtin .min=>match c.args.toList with|[x,y]=>(match a8q x,a8q y with|some x,some y=>some (.mm false x y)|_,_=>none)|_=>none
   |_=>none
 |_=>none
def h7k (P:Program) (o:Op):Option VOp:=some ((e3p P o).getD .no)
def c1w (P:Program) (ops:Array Oper) (o:Oper):Option a0c:=
 match h7k P o.op with
 |none=>none
 |some v=>match o.guard with
  |none=>some ⟨o.dst,v,none⟩
  |some (j,b)=>match(ops[j]?).bind (·.dst)with
   |some s=>some ⟨o.dst,v,some (s,b)⟩
   |none=>none
def a1f (P:Program) (ops:Array Oper):List Oper->Option (List a0c)
 |[]=>some []
 |o::r=>match c1w P ops o,a1f P ops r with|some v,some vs=>some (v::vs)|_,_=>none
def a5g (ops:List Oper):List Nat:=
 go ops []
where
 go:List Oper->List Nat->List Nat
  |[],acc=>acc
  |o::r,acc=>go r (acc++[o.after.toList.foldl (fun s e=>if Region.binds .any e then s|||2 ^ e.on|||acc.getD e.on 0 else s) 0])
def VOp.a7n:VOp->List Opd
 | .mv x| .box x| .ld _ x| .nilck x| .un _ x| .conv _ x| .fld _ _ x| .fadr _ x| .ext x _| .len _ x| .convs x| .mark x=>[x]
 | .pick c a b=>[c,a,b]
 | .zbox _=>[]
 | .build _ ps=>ps.map fun p=>p.2.2
 | .bslice _ _ ps=>ps
 | .abs _ ps=>ps
 | .st _ a x=>[a,x]
 | .isnil _ x=>[x]
 | .mkm| .no| .brow _=>[]
 | .b9z _ x y z| .mest x y z=>[x,y,z]
 | .mget _ _ _ x y| .ment _ _ x y=>[x,y]
 | .bin _ x y| .eqa _ _ x y| .eqb _ x y| .iadr _ x y| .iadra _ _ x y| .idx x y| .app _ _ x y| .mm _ x y=>[x,y]
 | .mkfn _ c=>c
 | .mkfm _ c=>c
 | .slcs x lo hi| .slc _ x lo hi=>x::(lo.toList++hi.toList)
 | .call _ args=>args
 | .callv f args=>f::args
 | .msl _ _ _ n=>[n]
def Opd.slots:Opd->List Nat
 | .t i=>[i]
 |_=>[]
def a0c.names (o:a0c):List Nat:=o.dst.toList++o.op.a7n.flatMap Opd.slots++(match o.guard with|some (g,_)=>[g]|none=>[])
def Opd.lt (N:Nat):Opd->Bool
 | .t i=>decide (i < N)
 |_=>true
def a0c.okN (N:Nat) (o:a0c):Bool:=
 (match o.dst with|some d=>decide (d < N)|none=>true) && o.op.a7n.all (Opd.lt N) && (match o.guard with|some (g,_)=>decide (g < N)|none=>true)
def a0m.okN (N:Nat):a0m->Bool
 | .reg ops| .draw _ ops=>ops.all (a0c.okN N)
 | .seq a b=>a0m.okN N a && a0m.okN N b
 | .cond c a b=>Opd.lt N c && a0m.okN N a && a0m.okN N b
 | .block _ b| .scope b=>a0m.okN N b
 | .loop ks b=>ks.all (fun k=>decide (k < N)) && a0m.okN N b
 | .newrow _ t| .bindrow _ t _| .bindto t _ _| .freeze t=>decide (t < N)
 |_=>true
def VFn.ok (f:VFn):Bool:=f.body.okN f.nt && f.res.all (fun| .tmp t=>decide (t < f.nt)| .cell t _=>decide (t < f.nt)) && decide (f.np<=f.nt)
def g4c (ops:List Oper):Nat:=
 let b:=a5g ops
 let full (i:Nat):Bool:=b.getD i 0 % 2 ^ i==2 ^ i - 1
 let rec go:Nat->Nat
  |0=>0
  |n+1=>if full n then go n else n+1
 go ops.length
def c0t (ops:Array Oper) (vs:List a0c) (m:Nat):Bool:=
 let l:=ops.toList
 let b:=a5g l
 let w:=vs.take m
 (l.zipIdx.all fun(o,i)=>o.after.all fun e=> !Region.binds .any e||decide (e.on < i)) &&
 (l.zipIdx.all fun(_,i)=>decide (i < m)||(List.range i).all fun k=>(b.getD i 0).testBit k) &&
 (w.zipIdx.all fun(o,i)=>o.names.all fun t=>w.zipIdx.all fun(p,k)=>
   k==i||p.dst !=some t||(if k < i then(b.getD i 0).testBit k else(b.getD k 0).testBit i)) && decide (m<=vs.length)
def b0g:Code->Option Nat
 | .region id _ _=>some id
 | .seq a b=>(b0g a).orElse fun _=>b0g b
 | .cond _ a b=>(b0g a).orElse fun _=>b0g b
 | .block _ b| .loop b| .scope b=>b0g b
 |_=>none
def b1i:List a0m->a0m->a0m
 |[],c=>c
 |g::r,c=> .seq g (b1i r c)
def a0m.b2b:a0m->Bool
 | .newrow _ _| .bindrow _ _ _| .freeze _| .mkrow _| .bindto _ _ _=>true
 |_=>false
def d3q (A:Ann) (b:Code):List a0m:=(b0g b).elim [] fun i=>A.ghost (i+1000000)
def tr (P:Program) (A:Ann):Code->Option a0m
 | .skip=>some .skip
 | .label _=>some .skip
 | .region id ops draw=>match a1f P ops ops.toList with
   |none=>none
   |some vs=>if(A.ghost id).all a0m.b2b=false then none else if draw then(if c0t ops vs (g4c ops.toList) then some (b1i (A.ghost id) (.draw (g4c ops.toList) vs)) else none)
    else some (b1i (A.ghost id) (.reg vs))
 | .seq a b=>match tr P A a,tr P A b with|some x,some y=>some (.seq x y)|_,_=>none
 | .cond c a b=>match a8q c,tr P A a,tr P A b with|some c,some x,some y=>some (.cond c x y)|_,_,_=>none
 | .block id b=>(tr P A b).map (.block id)
 | .loop b=>if(d3q A b).all a0m.b2b=false then none else(tr P A b).map fun v=>b1i (d3q A b) (.loop ((b0g b).elim [] A.keep) v)
 | .scope b=>(tr P A b).map .scope
 | .exit id=>some (.exit id)
 | .ret=>some .ret
 |_=>none
def b9k (P:Program):List ResultVar->Option (List d2j)
 |[]=>some []
 | .tmp t::r=>(b9k P r).map (.tmp t:: ·)
 | .cell a t::r=>match b3t P t,b9k P r with|some n,some rs=>some (.cell a n::rs)|_,_=>none
def g7b (P:Program) (A:Ann) (keep:Bool) (fn:Func):Option VFn:=
 match fn.body with
 |none=>none
 |some c=>match tr P A c,b9k P fn.results.toList with
  |some b,some rs=>some ⟨fn.params.size+fn.nfree,fn.ntmps,b,rs,keep⟩
  |_,_=>none
end Go.Vm
namespace Go.Vm
structure Gh where
 J:Nat->Option (Nat×Nat)
 C:Nat->List Value
mutual
def a0q (C:Nat->List Value):D->List Value->Prop
 | .bool b,vs=>vs=[.bool b]
 | .int k n,vs=>vs=[.int k n]
 | .str s,vs=>vs=[.string ⟨s.toArray⟩]
 | .agg l,vs=>a1j C l vs
 | .sl l,vs=> ∃ a cap,vs=[.slice a l.length cap]/\l.length<=cap/\(l=[]\/∃ b off sz us,a=some ⟨b,off,none⟩/\0 < sz/\us <+:(C b).drop off/\a1w C sz l us)
def a1j (C:Nat->List Value):List D->List Value->Prop
 |[],vs=>vs=[]
 |d::ds,vs=> ∃ y ys,vs=y::ys/\d.one=true/\a0q C d [y]/\a1j C ds ys
def a1w (C:Nat->List Value) (sz:Nat):List D->List Value->Prop
 |[],vs=>vs=[]
 |d::ds,vs=> ∃ v1 v2,vs=v1++v2/\v1.length=sz/\a0q C d v1/\a1w C sz ds v2
end
def a3j (C:Nat->List Value):D->Value->Prop
 | .agg l,x=> ∃ cs:Array Value,x= .agg cs/\a1j C l cs.toList
 |d,x=>a0q C d [x]
theorem a6x {α:Type} {a b:List α} (h:a <+:b) (n:Nat):a.drop n <+:b.drop n:=by
 obtain⟨t,rfl⟩:=h
 rw[List.drop_append]
 exact List.prefix_append _ _
theorem a2y {α:Type} {a b:List α} (h:a <+:b) {i:Nat} {x:α} (hx:a[i]? =some x):b[i]? =some x:=by
 obtain⟨t,rfl⟩:=h
 have hi:=(List.getElem?_eq_some_iff.1 hx).1
 rw[List.getElem?_append_left hi];exact hx
section mono
variable {C C':Nat->List Value}
mutual
theorem c0p (h:∀ b,C b <+:C' b):∀ (d:D) (vs:List Value),a0q C d vs->a0q C' d vs
 | .bool _,_,r=>r
 | .int _ _,_,r=>r
 | .str _,_,r=>r
 | .agg l,vs,r=>by simp only[a0q]at r⊢;exact a3e h l vs r
 | .sl l,vs,r=>by
   simp only[a0q]at r⊢
   obtain⟨a,cap,rfl,hc,r⟩:=r
   refine⟨a,cap,rfl,hc,r.imp id ?_⟩
   rintro⟨b,off,sz,us,h1,h2,h3,h4⟩
   exact⟨b,off,sz,us,h1,h2,h3.trans (a6x (h b) off),a5s h sz l us h4⟩
theorem a3e (h:∀ b,C b <+:C' b):∀ (l:List D) (vs:List Value),a1j C l vs->a1j C' l vs
 |[],_,r=>r
 |d::ds,vs,r=>by
  simp only[a1j]at r⊢
  obtain⟨y,ys,rfl,h1,h2,h3⟩:=r
  exact⟨y,ys,rfl,h1,c0p h d [y] h2,a3e h ds ys h3⟩
theorem a5s (h:∀ b,C b <+:C' b) (sz:Nat):∀ (l:List D) (vs:List Value),a1w C sz l vs->a1w C' sz l vs
 |[],_,r=>r
 |d::ds,vs,r=>by
  simp only[a1w]at r⊢
  obtain⟨v1,v2,rfl,h1,h2,h3⟩:=r
  exact⟨v1,v2,rfl,h1,c0p h d v1 h2,a5s h sz ds v2 h3⟩
end
theorem c6i (h:∀ b,C b <+:C' b) {d:D} {x:Value} (r:a3j C d x):a3j C' d x:=by
 cases d with
 |agg l=>obtain⟨cs,rfl,r⟩:=r;exact⟨cs,rfl,a3e h _ _ r⟩
 |_=>exact c0p h _ _ r
end mono
section facts
variable {C:Nat->List Value}
theorem b0i:∀ {l:List D} {vs:List Value},a1j C l vs->vs.length=l.length
 |[],vs,r=>by simp only[a1j]at r;subst r;rfl
 |d::ds,vs,r=>by
  simp only[a1j]at r
  obtain⟨y,ys,rfl,_,_,h3⟩:=r
  simp[b0i h3]
theorem a7u {d:D} {vs:List Value} (r:a0q C d vs):vs.length=d.cells.length:=by
 cases d with
 |bool b=>simp only[a0q]at r;subst r;rfl
 |int k n=>simp only[a0q]at r;subst r;rfl
 |str s=>simp only[a0q]at r;subst r;rfl
 |agg l=>simp only[a0q]at r;exact b0i r
 |sl l=>simp only[a0q]at r;obtain⟨a,cap,rfl,_⟩:=r;rfl
theorem c3r {d:D} {y:Value} (hd:d.one=true) (r:a0q C d [y]):y.oneCell'=true:=by
 cases d with
 |bool b=>simp only[a0q]at r;cases r;rfl
 |int k n=>simp only[a0q]at r;cases r;rfl
 |str s=>simp only[a0q]at r;cases r;rfl
 |agg l=>cases hd
 |sl l=>simp only[a0q]at r;obtain⟨a,cap,h,_⟩:=r;cases h;rfl
theorem d3j:∀ {l:List D} {vs:List Value},a1j C l vs->∀ v∈vs,v.oneCell'=true
 |[],vs,r,v,hv=>by simp only[a1j]at r;subst r;cases hv
 |d::ds,vs,r,v,hv=>by
  simp only[a1j]at r
  obtain⟨y,ys,rfl,h1,h2,h3⟩:=r
  cases hv with
  |head=>exact c3r h1 h2
  |tail _ hm=>exact d3j h3 v hm
theorem e3j {d:D} {vs:List Value} (r:a0q C d vs):∀ v∈vs,v.oneCell'=true:=by
 cases d with
 |agg l=>simp only[a0q]at r;exact d3j r
 |_=>
  intro v hv
  have hl:=a7u r
  simp only[D.cells,List.length_cons,List.length_nil]at hl
  obtain⟨y,rfl⟩:=List.length_eq_one_iff.1 hl
  simp only[List.mem_singleton]at hv
  subst hv
  exact c3r rfl r
theorem a3l {sz:Nat}:∀ {l:List D} {vs:List Value},a1w C sz l vs->vs.length=l.length*sz
 |[],vs,r=>by simp only[a1w]at r;subst r;simp
 |d::ds,vs,r=>by
  simp only[a1w]at r
  obtain⟨v1,v2,rfl,h1,_,h3⟩:=r
  simp[a3l h3,h1,Nat.add_mul,Nat.add_comm]
theorem c8p {sz:Nat}:∀ {l:List D} {vs:List Value},a1w C sz l vs->∀ v∈vs,v.oneCell'=true
 |[],vs,r,v,hv=>by simp only[a1w]at r;subst r;cases hv
 |d::ds,vs,r,v,hv=>by
  simp only[a1w]at r
  obtain⟨v1,v2,rfl,h1,h2,h3⟩:=r
  rcases List.mem_append.1 hv with hv|hv
  ·exact e3j h2 v hv
  ·exact c8p h3 v hv
theorem b4b {sz:Nat}:∀ {l l':List D} {vs vs':List Value},a1w C sz l vs->a1w C sz l' vs'->a1w C sz (l++l') (vs++vs')
 |[],l',vs,vs',r,r'=>by simp only[a1w]at r;subst r;exact r'
 |d::ds,l',vs,vs',r,r'=>by
  simp only[a1w]at r
  obtain⟨v1,v2,rfl,h1,h2,h3⟩:=r
  simp only[List.cons_append,a1w]
  exact⟨v1,v2++vs',by simp,h1,h2,b4b h3 r'⟩
theorem b9r {sz:Nat}:∀ {l:List D} {vs:List Value} {i:Nat} {d:D},a1w C sz l vs->l[i]? =some d->a0q C d ((vs.drop (i*sz)).take sz)
 |[],vs,i,d,r,h=>by simp at h
 |d::ds,vs,0,d',r,h=>by
  simp only[a1w]at r
  obtain⟨v1,v2,rfl,h1,h2,h3⟩:=r
  simp only[List.getElem?_cons_zero,Option.some.injEq]at h
  subst h
  simpa [<-h1] using h2
 |d::ds,vs,i+1,d',r,h=>by
  simp only[a1w]at r
  obtain⟨v1,v2,rfl,h1,h2,h3⟩:=r
  simp only[List.getElem?_cons_succ]at h
  have:=b9r h3 h
  rw[Nat.add_mul,Nat.one_mul,Nat.add_comm,<-h1,List.drop_length_add_append,h1]
  exact this
theorem c8d {sz:Nat}:∀ {l:List D} {vs:List Value} (k:Nat),a1w C sz l vs->a1w C sz (l.take k) (vs.take (k*sz))
 |[],vs,k,r=>by simp only[a1w]at r;subst r;simp[a1w]
 |d::ds,vs,0,r=>by simp[a1w]
 |d::ds,vs,k+1,r=>by
  simp only[a1w]at r
  obtain⟨v1,v2,rfl,h1,h2,h3⟩:=r
  simp only[List.take_succ_cons,a1w]
  refine⟨v1,v2.take (k*sz),?_,h1,h2,c8d k h3⟩
  rw[Nat.add_mul,Nat.one_mul,Nat.add_comm,<-h1,List.take_length_add_append]
theorem c7n {sz:Nat}:∀ {l:List D} {vs:List Value} (k:Nat),a1w C sz l vs->a1w C sz (l.drop k) (vs.drop (k*sz))
 |[],vs,k,r=>by simp only[a1w]at r;subst r;simp[a1w]
 |d::ds,vs,0,r=>by simpa using r
 |d::ds,vs,k+1,r=>by
  simp only[a1w]at r
  obtain⟨v1,v2,rfl,h1,h2,h3⟩:=r
  simp only[List.drop_succ_cons]
  rw[Nat.add_mul,Nat.one_mul,Nat.add_comm,<-h1,List.drop_length_add_append,h1]
  exact c7n k h3
theorem c8m:∀ {l:List D} {vs:List Value} (k:Nat),a1j C l vs->a1j C (l.take k) (vs.take k)
 |[],vs,k,r=>by simp only[a1j]at r;subst r;simp[a1j]
 |d::ds,vs,0,r=>by simp[a1j]
 |d::ds,vs,k+1,r=>by
  simp only[a1j]at r
  obtain⟨y,ys,rfl,h1,h2,h3⟩:=r
  simp only[List.take_succ_cons,a1j]
  exact⟨y,ys.take k,rfl,h1,h2,c8m k h3⟩
theorem c8e:∀ {l:List D} {vs:List Value} (k:Nat),a1j C l vs->a1j C (l.drop k) (vs.drop k)
 |[],vs,k,r=>by simp only[a1j]at r;subst r;simp[a1j]
 |d::ds,vs,0,r=>by simpa using r
 |d::ds,vs,k+1,r=>by
  simp only[a1j]at r
  obtain⟨y,ys,rfl,h1,h2,h3⟩:=r
  simp only[List.drop_succ_cons]
  exact c8e k h3
theorem e1o:∀ {l:List D} {vs:List Value},a1j C l vs->a1w C 1 l vs
 |[],vs,r=>r
 |d::ds,vs,r=>by
  simp only[a1j]at r
  obtain⟨y,ys,rfl,h1,h2,h3⟩:=r
  simp only[a1w]
  exact⟨[y],ys,rfl,rfl,h2,e1o h3⟩
theorem e3q {d:D} {x:Value} (r:a3j C d x):a0q C d x.cells.toList:=by
 cases d with
 |agg l=>obtain⟨cs,rfl,r⟩:=r;simpa only[a0q,Value.cells] using r
 |bool b=>simp only[a3j,a0q]at r;cases r;simp[a0q,Value.cells]
 |int k n=>simp only[a3j,a0q]at r;cases r;simp[a0q,Value.cells]
 |str s=>simp only[a3j,a0q]at r;cases r;simp[a0q,Value.cells]
 |sl l=>simp only[a3j]at r;have:=r;simp only[a0q]at r;obtain⟨a,cap,h,_⟩:=r;cases h;exact this
theorem d8r {d:D} {y:Value} (hd:d.one=true) (r:a0q C d [y]):a3j C d y:=by
 cases d with
 |agg l=>cases hd
 |_=>exact r
theorem b7b {d:D} {vs:List Value} (r:a0q C d vs):a1j C d.cells vs:=by
 cases d with
 |agg l=>simpa only[D.cells,a0q] using r
 |bool b=>simp only[D.cells,a1j];simp only[a0q]at r;subst r;exact⟨_,_,rfl,rfl,rfl,rfl⟩
 |int k n=>simp only[D.cells,a1j];simp only[a0q]at r;subst r;exact⟨_,_,rfl,rfl,rfl,rfl⟩
 |str s=>simp only[D.cells,a1j];simp only[a0q]at r;subst r;exact⟨_,_,rfl,rfl,rfl,rfl⟩
 |sl l=>
  simp only[D.cells,a1j]
  have r':=r
  simp only[a0q]at r
  obtain⟨a,cap,rfl,_⟩:=r
  exact⟨_,_,rfl,rfl,r',rfl⟩
end facts
mutual
/-- A value of the model that a value of the machine stands for. -/
def Rep (g:Gh) (H:Hp):V->Value->Prop
 | .d x,v=>a3j g.C x v
 | .agg l,v=> ∃ cs:Array Value,v= .agg cs/\a1e g H l cs.toList
 | .tup l,v=> ∃ cs:Array Value,v= .tuple cs/\a0z g H l cs.toList
 | .nils,v=>v= .slice none 0 0
 | .row id len,v=> ∃ a cap sz l,v= .slice a len cap/\H[id]? =some (.row sz l)/\len<=l.length/\(len=l.length->(len=0/\a=none/\cap=0)\/∃ b,g.J id=some (b,cap)/\a=some ⟨b,0,none⟩)
 | .arr id off len,v=>(∃ o,H[id]? =some o/\∀ sz l,o≠ .row sz l)/\∃ b c cap,g.J id=some (b,c)/\v= .slice (some ⟨b,off,none⟩) len cap/\len<=cap
 | .ptr id off,v=>(∃ o,H[id]? =some o/\∀ sz l,o≠ .row sz l)/\∃ b c,g.J id=some (b,c)/\v= .pointer (some ⟨b,off,none⟩)
 | .mp id,v=>(∃ o,H[id]? =some o/\∀ sz l,o≠ .row sz l)/\∃ b c,g.J id=some (b,c)/\v= .map (some b)
 | .ro l off,v=> ∃ b o vs,v= .pointer (some ⟨b,o+off,none⟩)/\vs <+:(g.C b).drop o/\a1j g.C l vs
 | .fn f c,v=> ∃ cs:Array Value,v= .func (.func f) #[] cs/\a0z g H c cs.toList
 | .fm f c,v=> ∃ cs:Array Value,v= .func (.func f) cs #[]/\a0z g H c cs.toList
 | .nul,v=>v= .pointer none
 | .nof,v=>v= .nilFunc
 | .ifc b,v=>(b=true/\v= .nilIface)\/(b=false/\∃ t y,v= .iface t y)
 | .raw y,v=>v=y
 | .nmp,v=>v= .map none
 | .nile,v=> ∃ a:Option Addr,v= .slice a 0 0/\∀ q,a=some q->q.spot=none
 | .undef,_=>True
/-- Cells. -/
def a1e (g:Gh) (H:Hp):List V->List Value->Prop
 |[],vs=>vs=[]
 |x::xs,vs=> ∃ y ys,vs=y::ys/\x.one=true/\Rep g H x y/\a1e g H xs ys
/-- Components. -/
def a0z (g:Gh) (H:Hp):List V->List Value->Prop
 |[],vs=>vs=[]
 |x::xs,vs=> ∃ y ys,vs=y::ys/\Rep g H x y/\a0z g H xs ys
end
structure Keep (n:Nat) (g:Gh) (H:Hp) (g':Gh) (H':Hp):Prop where
 C:∀ b,g.C b <+:g'.C b
 obj:∀ i o,i < n->H[i]? =some o->(∀ sz l,o≠ .row sz l)->g'.J i=g.J i/\∃ o',H'[i]? =some o'/\∀ sz l,o'≠ .row sz l
 row:∀ i sz l,i < n->H[i]? =some (.row sz l)->∃ l',H'[i]? =some (.row sz l')/\l <+:l'/\(l'.length=l.length->g'.J i=g.J i)
theorem Keep.refl (n:Nat) (g:Gh) (H:Hp):Keep n g H g H:=
 ⟨fun _=>List.prefix_refl _,fun _ o _ ho h=>⟨rfl,o,ho,h⟩,fun _ _ l _ ho=>⟨l,ho,List.prefix_refl _,fun _=>rfl⟩⟩
theorem Keep.trans {n m:Nat} {g g1 g2:Gh} {H H1 H2:Hp} (h:Keep n g H g1 H1) (k:Keep m g1 H1 g2 H2) (hm:n<=m):Keep n g H g2 H2:=by
 refine⟨fun b=>(h.C b).trans (k.C b),fun i o hi ho hr=>?_,fun i sz l hi ho=>?_⟩
 ·obtain⟨e1,o',h1,h2⟩:=h.obj i o hi ho hr
  obtain⟨e2,o'',h3,h4⟩:=k.obj i o' om h1 h2
  exact⟨e2.trans e1,o'',h3,h4⟩
 ·obtain⟨l',h1,h2,h3⟩:=h.row i sz l hi ho
  obtain⟨l'',h4,h5,h6⟩:=k.row i sz l' om h1
  refine⟨l'',h4,h2.trans h5,fun he=>?_⟩
  have a:=h2.length_le
  have b:=h5.length_le
  rw[h6 om,h3 om]
structure c2n (n:Nat) (g:Gh) (H:Hp) (g':Gh) (H':Hp):Prop where
 C:∀ b,g.C b <+:g'.C b
 obj:∀ i o,i < n->H[i]? =some o->(∀ sz l,o≠ .row sz l)->(∀ p,g.J i=some p->g'.J i=some p)/\∃ o',H'[i]? =some o'/\∀ sz l,o'≠ .row sz l
 row:∀ i sz l,i < n->H[i]? =some (.row sz l)->∃ l',H'[i]? =some (.row sz l')/\l <+:l'/\(l'.length=l.length->∀ p,g.J i=some p->g'.J i=some p)
theorem Keep.w {n:Nat} {g g':Gh} {H H':Hp} (k:Keep n g H g' H'):c2n n g H g' H':=
 ⟨k.C,fun i o hi ho hr=>⟨fun _ hp=>(k.obj i o hi ho hr).1.trans hp,(k.obj i o hi ho hr).2⟩,fun i sz l hi ho=>by
   obtain⟨l',h1,h2,h3⟩:=k.row i sz l hi ho
   exact⟨l',h1,h2,fun he _ hp=>(h3 he).trans hp⟩⟩
section
variable {n:Nat} {g g':Gh} {H H':Hp}
mutual
theorem a4p (k:c2n n g H g' H'):∀ (v:V) (x:Value),v.und n=true->Rep g H v x->Rep g' H' v x
 | .d d,x,_,r=>by simp only[Rep]at r⊢;exact c6i k.C r
 | .agg l,x,u,r=>by
   simp only[Rep]at r⊢
   obtain⟨cs,rfl,r⟩:=r
   exact⟨cs,rfl,a6z k l _ (by simpa only[V.und] using u) r⟩
 | .tup l,x,u,r=>by
   simp only[Rep]at r⊢
   obtain⟨cs,rfl,r⟩:=r
   exact⟨cs,rfl,a5t k l _ (by simpa only[V.und] using u) r⟩
 | .nils,x,_,r=>by simpa only[Rep] using r
 | .row id len,x,u,r=>by
   simp only[Rep]at r⊢
   obtain⟨a,cap,sz,l,rfl,ho,r1,r2⟩:=r
   simp only[V.und,decide_eq_true_eq]at u
   obtain⟨l',h1,h2,h3⟩:=k.row id sz l u ho
   have hp:=h2.length_le
   refine⟨a,cap,sz,l',rfl,h1,om,fun he=>?_⟩
   have e:=h3 om
   rcases r2 om with q|⟨b,q1,q2⟩
   ·exact .inl q
   ·exact .inr ⟨b,e _ q1,q2⟩
 | .arr id off len,x,u,r=>by
   simp only[Rep]at r⊢
   obtain⟨⟨o,ho,hr⟩,b,c,cap,h1,rfl,hlc⟩:=r
   simp only[V.und,decide_eq_true_eq]at u
   obtain⟨e,q⟩:=k.obj id o u ho hr
   exact⟨q,b,c,cap,e _ h1,rfl,hlc⟩
 | .ptr id off,x,u,r=>by
   simp only[Rep]at r⊢
   obtain⟨⟨o,ho,hr⟩,b,c,h1,rfl⟩:=r
   simp only[V.und,decide_eq_true_eq]at u
   obtain⟨e,q⟩:=k.obj id o u ho hr
   exact⟨q,b,c,e _ h1,rfl⟩
 | .mp id,x,u,r=>by
   simp only[Rep]at r⊢
   obtain⟨⟨o,ho,hr⟩,b,c,h1,rfl⟩:=r
   simp only[V.und,decide_eq_true_eq]at u
   obtain⟨e,q⟩:=k.obj id o u ho hr
   exact⟨q,b,c,e _ h1,rfl⟩
 | .ro l off,x,_,r=>by
   simp only[Rep]at r⊢
   obtain⟨b,o,vs,rfl,h1,h2⟩:=r
   exact⟨b,o,vs,rfl,h1.trans (a6x (k.C b) o),a3e k.C _ _ h2⟩
 | .fn f c,x,u,r=>by
   simp only[Rep]at r⊢
   obtain⟨cs,rfl,r⟩:=r
   exact⟨cs,rfl,a5t k c _ (by simpa only[V.und] using u) r⟩
 | .fm f c,x,u,r=>by
   simp only[Rep]at r⊢
   obtain⟨cs,rfl,r⟩:=r
   exact⟨cs,rfl,a5t k c _ (by simpa only[V.und] using u) r⟩
 | .nul,x,_,r=>by simpa only[Rep] using r
 | .nof,x,_,r=>by simpa only[Rep] using r
 | .ifc _,x,_,r=>by simpa only[Rep] using r
 | .raw _,x,_,r=>by simpa only[Rep] using r
 | .nmp,x,_,r=>by simpa only[Rep] using r
 | .nile,x,_,r=>by simpa only[Rep] using r
 | .undef,x,_,r=>by simp only[Rep]
theorem a6z (k:c2n n g H g' H'):∀ (l:List V) (vs:List Value),a1a n l=true->a1e g H l vs->a1e g' H' l vs
 |[],_,_,r=>r
 |v::l,vs,u,r=>by
  simp only[a1e]at r⊢
  simp only[a1a,Bool.and_eq_true]at u
  obtain⟨y,ys,rfl,h1,h2,h3⟩:=r
  exact⟨y,ys,rfl,h1,a4p k v y u.1 h2,a6z k l ys u.2 h3⟩
theorem a5t (k:c2n n g H g' H'):∀ (l:List V) (vs:List Value),a1a n l=true->a0z g H l vs->a0z g' H' l vs
 |[],_,_,r=>r
 |v::l,vs,u,r=>by
  simp only[a0z]at r⊢
  simp only[a1a,Bool.and_eq_true]at u
  obtain⟨y,ys,rfl,h2,h3⟩:=r
  exact⟨y,ys,rfl,a4p k v y u.1 h2,a5t k l ys u.2 h3⟩
end
end
end Go.Vm
namespace Go.Vm
inductive a0x where
 |code (f:VFn)
 |prim (F:List V->Hp->Option (V×Hp))
structure Pg extends Cx where
 tbl:Nat->Option a0x
abbrev Lp:=List Nat->a0m->St->Option (Ex×St)
def sq (r:Option (Ex×St)) (k:St->Option (Ex×St)):Option (Ex×St):=
 match r with
 |some (.nrm,s)=>k s
 |some (.exit i,s)=>some (.exit i,s)
 |some (.ret,s)=>some (.ret,s)
 |none=>none
structure d6t (cx:Cx) (orc:Orc) (m:Nat) (ops:List a0c) (s:St) (d:Nat) (od:a0c) (τ:Nat->St) (val:Nat->V):Prop where
 lt:d < m
 le:m<=ops.length
 odx:ops[d]? =some od
 zero:τ 0=s
 step:∀ i o,i < m->ops[i]? =some o->a0b cx orc o (τ i)=some (τ (i+1))/\(τ (i+1)).e=a6w o.dst (val i) (τ i).e
 quiet:∀ i o,i < m->ops[i]? =some o->i≠d->(τ (i+1)).h=(τ i).h
 ahead:∀ i o,i < d->ops[i]? =some o->a0b cx orc o ⟨(τ i).e,(τ (d+1)).h,s.b⟩=some ⟨(τ (i+1)).e,(τ (d+1)).h,s.b⟩
 behind:∀ i o,d < i->i < m->ops[i]? =some o->(∃ t,od.dst=some t/\t∈o.names)\/a0b cx orc o ⟨(τ i).e,s.h,s.b⟩=some ⟨(τ (i+1)).e,s.h,s.b⟩
structure f0o (cx:Cx) (orc:Orc) (m:Nat) (ops:List a0c) (s:St) (d a:Nat) (ε:Nat->Env) (val:Nat->V) (Hs:Bool->Bool->Hp):Prop where
 ld:d < m
 la:a < m
 ne:d≠a
 le:m<=ops.length
 zero:ε 0=s.e
 h0:Hs false false=s.h
 env:∀ i o,i < m->ops[i]? =some o->ε (i+1)=a6w o.dst (val i) (ε i)
 run:∀ i o x y,i < m->ops[i]? =some o->(i=d->x=false)->(i=a->y=false)->a0b cx orc o ⟨ε i,Hs x y,s.b⟩=some ⟨ε (i+1),Hs (x||decide (i=d)) (y||decide (i=a)),s.b⟩
def c1p:VOp->Bool
 | .mv _| .pick .. | .build .. | .ld .. | .bin .. | .un .. | .conv .. | .fld .. | .fadr .. | .ext .. | .len .. | .mkfn .. | .mkfm .. | .eqa .. | .eqb .. | .convs .. | .isnil .. | .bslice .. | .idx .. | .iadra .. | .iadr .. | .slcs .. | .slc .. | .mget .. | .mm .. | .nilck .. =>true
 |_=>false
theorem c5w {cx:Cx} {orc:Orc} {b:Nat} {e:Env} {H:Hp} {o:VOp} {v:V} {H':Hp} (hp:c1p o=true) (h:a0p cx orc b e H o=some (v,H')):H'=H:=by
 cases o<;>first|(cases hp;done)|skip
 case len str x=>
  cases str<;>simp only[a0p]at h
  ·cases hl:c9l (evO cx e x)with
   |none=>rw[hl]at h;cases h
   |some n=>rw[hl]at h;cases h;rfl
  ·split at h
   ·cases h;rfl
   ·rename_i hh;cases hh
   ·cases h
 all_goals
  simp only[a0p]at h
  repeat' split at h
  all_goals first
    |(cases h;done)
    |(simp only[Option.some.injEq,Prod.mk.injEq]at h;exact h.2.symm)
    |(simp only[Option.map_eq_some_iff,Prod.mk.injEq]at h;obtain⟨_,_,_,h⟩:=h;exact h.symm)
def e2s (a:Nat) (ops:List a0c):Bool:=((ops.take a).all fun o=>c1p o.op) && match ops.drop a with
  |⟨some k1,.zbox _,none⟩::⟨some k2,.zbox _,none⟩::⟨none,.st _ (.t p) (.t v),none⟩::_=>p==k1 && k1 !=k2 && v !=k1 && v !=k2
  |_=>false
def c6w (cx:Cx) (orc:Orc) (m:Nat) (ops:List a0c) (s:St):Prop:=(∃ d od τ val,d6t cx orc m ops s d od τ val)\/(∃ d a ε val Hs,f0o cx orc m ops s d a ε val Hs)\/∃ a,m=a+3/\e2s a ops=true/\∃ r,a2d cx orc (a+2) ops s=some r
open Classical in
noncomputable def b0x (cx:Cx) (orc:Orc) (m:Nat) (ops:List a0c) (s:St):Option St:=
 if(∃ r,a2d cx orc m ops s=some r)\/c6w cx orc m ops s then a0k cx orc ops s else none
theorem b4v {cx:Cx} {orc:Orc}:∀ {m:Nat} {ops:List a0c} {s r:St},a2d cx orc m ops s=some r->a0k cx orc ops s=some r
 |0,[],_,_,h=>h
 |_+1,[],_,_,h=>h
 |0,_::_,_,_,h=>h
 |m+1,o::r,s,q,h=>by
  simp only[a2d]at h
  simp only[a0k]
  cases hx:a0b cx orc o s with
  |none=>rw[hx]at h;cases h
  |some s1=>
   rw[hx]at h
   simp only[Option.bind_some]at h⊢
   split at h
   ·exact b4v h
   ·cases h
theorem b9g {cx:Cx} {orc:Orc} {m:Nat} {ops:List a0c} {s r:St} (h:a2d cx orc m ops s=some r):b0x cx orc m ops s=some r:=by
 unfold b0x;rw[if_pos (.inl ⟨r,h⟩)];exact b4v h
theorem a3h {cx:Cx} {orc:Orc} {m:Nat} {ops:List a0c} {s r:St}:b0x cx orc m ops s=some r↔a0k cx orc ops s=some r/\((∃ r,a2d cx orc m ops s=some r)\/c6w cx orc m ops s):=by
 unfold b0x
 constructor
 ·intro h
  split at h
  ·rename_i c;exact⟨h,c⟩
  ·cases h
 ·rintro⟨h,c⟩;rw[if_pos c];exact h
noncomputable def evC (cx:Cx) (orc:Orc) (lp:Lp):a0m->St->Option (Ex×St)
 | .skip,s=>some (.nrm,s)
 | .reg ops,s=>(a0k cx orc ops s).map fun s=>(.nrm,s)
 | .draw m ops,s=>(b0x cx orc m ops s).map fun s=>(.nrm,s)
 | .seq a b,s=>sq (evC cx orc lp a s) fun s'=>evC cx orc lp b s'
 | .cond c a b,s=>match evO cx s.e c with
   | .d (.bool t)=>if t then evC cx orc lp a s else evC cx orc lp b s
   |_=>none
 | .block id b,s=>match evC cx orc lp b s with
   |some (.exit i,s')=>if i=id then some (.nrm,s') else some (.exit i,s')
   |r=>r
 | .scope b,s=>evC cx orc lp b s
 | .loop ks b,s=>match evC cx orc lp b ⟨a1d ks s.e,s.h,s.h.length⟩with
   |some (.nrm,s')=>lp ks b ⟨cut s.h.length (a1d ks s'.e),s'.h.take s.h.length,s.b⟩
   |some (x,s')=>some (x,⟨s'.e,s'.h,s.b⟩)
   |none=>none
 | .exit i,s=>some (.exit i,s)
 | .ret,s=>some (.ret,s)
 | .newrow sz t,s=>match a1g s.e t with
   | .nils=>if 0 < sz then some (.nrm,⟨(t,.row s.h.length 0)::s.e,s.h++[.row sz []],s.b⟩) else none
   |_=>none
 | .bindrow sz t off,s=>match a1g s.e t with
   | .ptr id o=>match s.h[id]? with
     |some (.box c)=>match c[o+off]? with
      |some .nils=>if s.b<=id/\0 < sz then some (.nrm,⟨s.e,s.h.set id (.box (c.set (o+off) (.row s.h.length 0)))++[.row sz []],s.b⟩) else none
      |_=>none
     |_=>none
   |_=>none
 | .mkrow sz,s=>if 0 < sz then some (.nrm,⟨s.e,s.h++[.row sz []],s.b⟩) else none
 | .bindto t off k,s=>match a1g s.e t with
   | .ptr id o=>match s.h[id]? with
     |some (.box c)=>match c[o+off]?,s.h[id - k]? with
      |some .nils,some (.row _ [])=>if 0 < k/\k<=id/\s.b<=id - k then some (.nrm,⟨s.e,s.h.set id (.box (c.set (o+off) (.row (id - k) 0))),s.b⟩) else none
      |_,_=>none
     |_=>none
   |_=>none
 | .freeze t,s=>match a1g s.e t with
   | .arr id _ _=>match s.h[id]? with
     |some (.box c)=>match b4x c with
      |some ds=>some (.nrm,⟨s.e,s.h.set id (.frz ds),s.b⟩)
      |none=>none
     |_=>none
   | .row id len=>match s.h[id]? with
     |some (.row _ l)=>if l.length=len then some (.nrm,⟨(t,.d (.sl l))::s.e,s.h,s.b⟩) else none
     |_=>none
   |_=>none
def e2k (e:Env) (h:Hp):d2j->Option V
 | .tmp t=>some (a1g e t)
 | .cell t n=>b7o h n (a1g e t)
def a8j (e:Env) (h:Hp):List d2j->Option (List V)
 |[]=>some []
 |r::rs=>match e2k e h r,a8j e h rs with|some v,some vs=>some (v::vs)|_,_=>none
def oneOf:List V->V
 |[v]=>v
 |vs=> .tup vs
def a1z (args:List V):Env:=(List.range args.length).map fun i=>(i,args.getD i .undef)
def leave (vf:VFn) (h0:Nat) (s:St):Option (V×Hp):=
 match a8j s.e s.h vf.res with
 |none=>none
 |some vs=>
  if vf.keep then some (oneOf vs,s.h)
  else let ds:=vs.map (toArg s.h);if a1a h0 ds then some (oneOf ds,s.h.take h0) else none
def bare (t:Bool) (h:Hp) (k:Hp->Option (V×Hp)):Option (V×Hp):=
 match t with
 |true=>(k []).map fun r=>(r.1,h)
 |false=>k h
noncomputable def c2t (pg:Pg) (orc:Orc) (lp:Lp) (f:Nat) (args:List V) (h:Hp):Option (V×Hp):=
 match pg.tbl f with
 |none=>none
 |some (.prim F)=>F args h
 |some (.code vf)=>if args.length=vf.np then
     bare (a1a 0 args && !vf.keep) h fun h=>match evC pg.toCx orc lp vf.body ⟨a1z args,h,h.length⟩with
     |some (.nrm,s)|some (.ret,s)=>leave vf h.length s
     |_=>none
   else none
noncomputable def atN (pg:Pg):Nat->Orc×Lp
 |0=>(fun _ _ _=>none,fun _ _ _=>none)
 |n+1=>(c2t pg (atN pg n).1 (atN pg n).2,fun ks b s=>evC pg.toCx (atN pg n).1 (atN pg n).2 (.loop ks b) s)
noncomputable def b0u (pg:Pg) (n:Nat):Orc:=(atN pg n).1
noncomputable def c2f (pg:Pg) (n:Nat):Lp:=(atN pg n).2
theorem b1r (pg:Pg) (f:Nat) (a:List V) (h:Hp):b0u pg 0 f a h=none:=rfl
theorem a7o (pg:Pg) (n f:Nat) (a:List V) (h:Hp):b0u pg (n+1) f a h=c2t pg (b0u pg n) (c2f pg n) f a h:=rfl
theorem b1o (pg:Pg) (k:List Nat) (b:a0m) (s:St):c2f pg 0 k b s=none:=rfl
theorem a9j (pg:Pg) (n:Nat) (k:List Nat) (b:a0m) (s:St):c2f pg (n+1) k b s=evC pg.toCx (b0u pg n) (c2f pg n) (.loop k b) s:=rfl
end Go.Vm
namespace Go.Vm
def OLe (o o':Orc):Prop:=∀ f a h r,o f a h=some r->o' f a h=some r
def LLe (l l':Lp):Prop:=∀ k b s r,l k b s=some r->l' k b s=some r
theorem d5q {cx:Cx} {o o':Orc} (ho:OLe o o') {b:Nat} {e:Env} {H:Hp} {op:VOp} {r:V×Hp} (h:a0p cx o b e H op=some r):a0p cx o' b e H op=some r:=by
 cases op with
 |call f args=>exact ho _ _ _ _ h
 |callv f args=>
  simp only[a0p]at h⊢
  split at h
  ·exact ho _ _ _ _ h
  ·exact ho _ _ _ _ h
  ·cases h
 |_=>exact h
theorem f8d {d:Option Nat} {e:Env} {b:Nat} {x y:Option (V×Hp)} {r:St} (h:∀ q,x=some q->y=some q) (hr:lay d e b x=some r):lay d e b y=some r:=by
 cases x with
 |none=>cases hr
 |some q=>rw[h q rfl];exact hr
theorem f8g {v:V} {b:Bool} {d:Option Nat} {s:St} {x y:Option (V×Hp)} {r:St} (h:∀ q,x=some q->y=some q) (hr:grd v b d s x=some r):grd v b d s y=some r:=by
 unfold grd at hr⊢
 split at hr
 ·split at hr
  ·rename_i hb;exact(if_pos hb).trans (f8d h hr)
  ·rename_i hb;exact(if_neg hb).trans hr
 ·exact hr
 ·cases hr
theorem a0n {cx:Cx} {o o':Orc} (ho:OLe o o') {x:a0c} {s r:St} (h:a0b cx o x s=some r):a0b cx o' x s=some r:=by
 unfold a0b at h⊢
 split at h
 ·exact f8d (fun q hq=>d5q ho hq) h
 ·exact f8g (fun q hq=>d5q ho hq) h
theorem a2k {cx:Cx} {o o':Orc} (ho:OLe o o'):∀ {ops:List a0c} {s r:St},a0k cx o ops s=some r->a0k cx o' ops s=some r
 |[],_,_,h=>h
 |x::xs,s,r,h=>by
  simp only[a0k]at h⊢
  cases hx:a0b cx o x s with
  |none=>rw[hx]at h;cases h
  |some q=>rw[hx]at h;rw[a0n ho hx];exact a2k ho h
theorem a7e {cx:Cx} {o o':Orc} (ho:OLe o o'):∀ {m:Nat} {ops:List a0c} {s r:St},a2d cx o m ops s=some r->a2d cx o' m ops s=some r
 |0,[],_,_,h=>h
 |_+1,[],_,_,h=>h
 |0,x::xs,s,r,h=>a2k ho h
 |m+1,x::xs,s,r,h=>by
  simp only[a2d]at h⊢
  cases hx:a0b cx o x s with
  |none=>rw[hx]at h;cases h
  |some q=>
   rw[hx]at h;rw[a0n ho hx]
   simp only[Option.bind_some]at h⊢
   split at h
   ·rename_i hg;rw[if_pos hg];exact a7e ho h
   ·cases h
theorem c8y {cx:Cx} {o o':Orc} (ho:OLe o o') {m:Nat} {ops:List a0c} {s:St} (h:c6w cx o m ops s):c6w cx o' m ops s:=by
 rcases h with⟨d,od,τ,val,D⟩|⟨d,a,ε,val,Hs,D⟩|⟨a,h1,h2,r,h3⟩
 rotate_left
 rotate_left
 ·exact .inr (.inr ⟨a,h1,h2,r,a7e ho h3⟩)
 rotate_left
 ·exact .inr (.inl ⟨d,a,ε,val,Hs,D.ld,D.la,D.ne,D.le,D.zero,D.h0,D.env,fun i q x y hi hq h1 h2=>a0n ho (D.run i q x y hi hq h1 h2)⟩)
 exact .inl ⟨d,od,τ,val,D.lt,D.le,D.odx,D.zero,fun i q hi hq=>⟨a0n ho (D.step i q hi hq).1,(D.step i q hi hq).2⟩,D.quiet,fun i q hi hq=>a0n ho (D.ahead i q hi hq),fun i q h1 h2 hq=>(D.behind i q h1 h2 hq).imp id (a0n ho)⟩
theorem e5o {cx:Cx} {o o':Orc} (ho:OLe o o') {m:Nat} {ops:List a0c} {s r:St} (h:b0x cx o m ops s=some r):b0x cx o' m ops s=some r:=by
 obtain⟨h1,h2⟩:=a3h.1 h
 refine a3h.2 ⟨a2k ho h1,?_⟩
 rcases h2 with⟨q,hq⟩|hD
 ·exact .inl ⟨q,a7e ho hq⟩
 ·exact .inr (c8y ho hD)
theorem a8l {cx:Cx} {o o':Orc} (ho:OLe o o') {l l':Lp} (hl:LLe l l'):∀ {c:a0m} {s:St} {r:Ex×St},evC cx o l c s=some r->evC cx o' l' c s=some r:=by
 intro c
 induction c with
 |skip=>intro s r h;exact h
 |reg ops=>
  intro s r h;simp only[evC]at h⊢
  cases hx:a0k cx o ops s with
  |none=>rw[hx]at h;cases h
  |some q=>rw[hx]at h;rw[a2k ho hx];exact h
 |draw m ops=>
  intro s r h;simp only[evC]at h⊢
  cases hx:b0x cx o m ops s with
  |none=>rw[hx]at h;cases h
  |some q=>rw[hx]at h;rw[e5o ho hx];exact h
 |seq a b iha ihb=>
  intro s r h;simp only[evC]at h⊢
  cases hx:evC cx o l a s with
  |none=>rw[hx]at h;cases h
  |some q=>
   obtain⟨x,s'⟩:=q
   rw[hx]at h;rw[iha hx]
   cases x<;>first|exact ihb h|exact h
 |cond c a b iha ihb=>
  intro s r h;simp only[evC]at h⊢
  split at h
  ·split at h
   ·rename_i hb;rw[if_pos hb];exact iha h
   ·rename_i hb;rw[if_neg hb];exact ihb h
  ·cases h
 |block id b ih=>
  intro s r h;simp only[evC]at h⊢
  cases hx:evC cx o l b s with
  |none=>rw[hx]at h;cases h
  |some q=>rw[hx]at h;rw[ih hx];exact h
 |scope b ih=>intro s r h;simp only[evC]at h⊢;exact ih h
 |loop k b ih=>
  intro s r h;simp only[evC]at h⊢
  cases hx:evC cx o l b ⟨a1d k s.e,s.h,s.h.length⟩with
  |none=>rw[hx]at h;cases h
  |some q=>
   obtain⟨x,s'⟩:=q
   rw[hx]at h;rw[ih hx]
   cases x<;>simp only at h⊢ <;>first|exact hl _ _ _ _ h|exact h
 |exit i=>intro s r h;exact h
 |ret=>intro s r h;exact h
 |newrow a b=>intro s r h;exact h
 |bindrow a b c=>intro s r h;exact h
 |mkrow a=>intro s r h;exact h
 |bindto a b c=>intro s r h;exact h
 |freeze a=>intro s r h;exact h
theorem d0u {t:Bool} {h:Hp} {k k':Hp->Option (V×Hp)} {r:V×Hp} (hk:∀ h r,k h=some r->k' h=some r) (hr:bare t h k=some r):bare t h k'=some r:=by
 cases t with
 |true=>
  simp only[bare]at hr⊢
  obtain⟨q,hq,rfl⟩:=Option.map_eq_some_iff.1 hr
  rw[hk _ _ hq];rfl
 |false=>exact hk _ _ hr
theorem d6p (pg:Pg):∀ n,OLe (b0u pg n) (b0u pg (n+1))/\LLe (c2f pg n) (c2f pg (n+1))
 |0=>⟨fun _ _ _ _ h=>(nomatch ((b1r pg _ _ _).symm.trans h)),fun _ _ _ _ h=>(nomatch ((b1o pg _ _ _).symm.trans h))⟩
 |n+1=>by
  obtain⟨h1,h2⟩:=d6p pg n
  refine⟨fun f a h r hr=>?_,fun k b s r hr=>?_⟩
  ·rw[a7o,c2t]at hr⊢
   split at hr
   ·cases hr
   ·exact hr
   ·rename_i vf ht
    split at hr
    ·rename_i hl;rw[if_pos hl]
     refine d0u (fun h r hr=>?_) hr
     cases hx:evC pg.toCx (b0u pg n) (c2f pg n) vf.body ⟨a1z a,h,h.length⟩with
     |none=>rw[hx]at hr;cases hr
     |some q=>rw[hx]at hr;rw[a8l h1 h2 hx];exact hr
    ·cases hr
  ·rw[a9j]at hr⊢;exact a8l h1 h2 hr
theorem a8o (pg:Pg) {n m:Nat} (h:n<=m):OLe (b0u pg n) (b0u pg m):=by
 induction m with
 |zero=>obtain rfl:n=0:=om
        exact fun _ _ _ _ h=>h
 |succ m ih=>
  by_cases hm:n=m+1
  ·subst hm;exact fun _ _ _ _ h=>h
  ·exact fun f a hh r hr=>(d6p pg m).1 _ _ _ _ (ih om _ _ _ _ hr)
theorem e4v (pg:Pg) {n m:Nat} (h:n<=m):LLe (c2f pg n) (c2f pg m):=by
 induction m with
 |zero=>obtain rfl:n=0:=om
        exact fun _ _ _ _ h=>h
 |succ m ih=>
  by_cases hm:n=m+1
  ·subst hm;exact fun _ _ _ _ h=>h
  ·exact fun f a hh r hr=>(d6p pg m).2 _ _ _ _ (ih om _ _ _ _ hr)
open Classical in
@[irreducible] noncomputable def evF (pg:Pg):Orc:=fun f a h=>if x:∃ r,∃ n,b0u pg n f a h=some r then some x.choose else none
open Classical in
@[irreducible] noncomputable def evL (pg:Pg):Lp:=fun k b s=>if x:∃ r,∃ n,c2f pg n k b s=some r then some x.choose else none
theorem a7c {pg:Pg} {f:Nat} {a:List V} {h:Hp} {r:V×Hp}:evF pg f a h=some r↔∃ n,b0u pg n f a h=some r:=by
 unfold evF
 constructor
 ·intro hx
  split at hx
  ·rename_i x;cases hx;exact x.choose_spec
  ·cases hx
 ·rintro⟨n,hn⟩
  have x:∃ r,∃ n,b0u pg n f a h=some r:=⟨r,n,hn⟩
  rw[dif_pos x]
  obtain⟨m,hm⟩:=x.choose_spec
  have e1:=a8o pg (Nat.le_max_left n m) _ _ _ _ hn
  have e2:=a8o pg (Nat.le_max_right n m) _ _ _ _ hm
  rw[e1]at e2;exact e2.symm
theorem c9v {pg:Pg} {k:List Nat} {b:a0m} {s:St} {r:Ex×St}:evL pg k b s=some r↔∃ n,c2f pg n k b s=some r:=by
 unfold evL
 constructor
 ·intro hx
  split at hx
  ·rename_i x;cases hx;exact x.choose_spec
  ·cases hx
 ·rintro⟨n,hn⟩
  have x:∃ r,∃ n,c2f pg n k b s=some r:=⟨r,n,hn⟩
  rw[dif_pos x]
  obtain⟨m,hm⟩:=x.choose_spec
  have e1:=e4v pg (Nat.le_max_left n m) _ _ _ _ hn
  have e2:=e4v pg (Nat.le_max_right n m) _ _ _ _ hm
  rw[e1]at e2;exact e2.symm
theorem f0e (pg:Pg) (n:Nat):OLe (b0u pg n) (evF pg):=fun _ _ _ _ h=>a7c.2 ⟨n,h⟩
theorem f8x (pg:Pg) (n:Nat):LLe (c2f pg n) (evL pg):=fun _ _ _ _ h=>c9v.2 ⟨n,h⟩
section fin
variable {pg:Pg}
theorem f6k {b:Nat} {e:Env} {H:Hp} {op:VOp} {r:V×Hp} (h:a0p pg.toCx (evF pg) b e H op=some r):∃ n,a0p pg.toCx (b0u pg n) b e H op=some r:=by
 cases op with
 |call f args=>exact a7c.1 h
 |callv f args=>
  simp only[a0p]at h⊢
  split at h
  ·exact a7c.1 h
  ·exact a7c.1 h
  ·cases h
 |_=>exact⟨0,h⟩
theorem a8z {x:a0c} {s r:St} (h:a0b pg.toCx (evF pg) x s=some r):∃ n,a0b pg.toCx (b0u pg n) x s=some r:=by
 unfold a0b at h⊢
 cases hx:a0p pg.toCx (evF pg) s.b s.e s.h x.op with
 |none=>
  rw[hx]at h
  refine⟨0,?_⟩
  split at h
  ·cases h
  ·exact f8g (fun q hq=>by cases hq) h
 |some q=>
  obtain⟨n,hn⟩:=f6k hx
  rw[hx]at h
  exact⟨n,by rw[hn];exact h⟩
theorem b8y:∀ {ops:List a0c} {s r:St},a0k pg.toCx (evF pg) ops s=some r->∃ n,a0k pg.toCx (b0u pg n) ops s=some r
 |[],_,_,h=>⟨0,h⟩
 |x::xs,s,r,h=>by
  simp only[a0k]at h
  cases hx:a0b pg.toCx (evF pg) x s with
  |none=>rw[hx]at h;cases h
  |some q=>
   rw[hx]at h
   obtain⟨n,hn⟩:=a8z hx
   obtain⟨m,hm⟩:=b8y (ops:=xs) h
   exact⟨max n m,by simp only[a0k];rw[a0n (a8o pg (Nat.le_max_left n m)) hn];exact a2k (a8o pg (Nat.le_max_right n m)) hm⟩
theorem c1c:∀ {k:Nat} {ops:List a0c} {s r:St},a2d pg.toCx (evF pg) k ops s=some r->∃ n,a2d pg.toCx (b0u pg n) k ops s=some r
 |0,[],_,_,h=>⟨0,h⟩
 |_+1,[],_,_,h=>⟨0,h⟩
 |0,x::xs,s,r,h=>b8y h
 |k+1,x::xs,s,r,h=>by
  simp only[a2d]at h
  cases hx:a0b pg.toCx (evF pg) x s with
  |none=>rw[hx]at h;cases h
  |some q=>
   rw[hx]at h
   obtain⟨n,hn⟩:=a8z hx
   simp only[Option.bind_some]at h
   split at h
   ·rename_i hg
    obtain⟨m,hm⟩:=c1c (ops:=xs) h
    refine⟨max n m,?_⟩
    simp only[a2d];rw[a0n (a8o pg (Nat.le_max_left n m)) hn]
    simp only[Option.bind_some,if_pos hg]
    exact a7e (a8o pg (Nat.le_max_right n m)) hm
   ·cases h
theorem d6r {p:Nat->Nat->Prop} (hp:∀ i n n',n<=n'->p i n->p i n'):∀ m,(∀ i,i < m->∃ n,p i n)->∃ n,∀ i,i < m->p i n
 |0,_=>⟨0,fun i h=>absurd h (Nat.not_lt_zero i)⟩
 |m+1,h=>by
  obtain⟨n,hn⟩:=d6r hp m fun i hi=>h i om
  obtain⟨k,hk⟩:=h m om
  refine⟨max n k,fun i hi=>?_⟩
  rcases Nat.lt_succ_iff_lt_or_eq.1 hi with q|q
  ·exact hp i n _ (Nat.le_max_left n k) (hn i q)
  ·subst q;exact hp i k _ (Nat.le_max_right n k) hk
theorem e9h {m:Nat} {ops:List a0c} {s:St} (h:c6w pg.toCx (evF pg) m ops s):∃ n,c6w pg.toCx (b0u pg n) m ops s:=by
 rcases h with⟨d,od,τ,val,D⟩|⟨d,a,ε,val,Hs,D⟩|⟨a,h1,h2,r,h3⟩
 rotate_left
 rotate_left
 ·obtain⟨n,hn⟩:=c1c h3
  exact⟨n,.inr (.inr ⟨a,h1,h2,r,hn⟩)⟩
 rotate_left
 ·have key:∃ n,∀ i,i < m->∀ q,ops[i]? =some q->∀ x y,(i=d->x=false)->(i=a->y=false)->a0b pg.toCx (b0u pg n) q ⟨ε i,Hs x y,s.b⟩=some ⟨ε (i+1),Hs (x||decide (i=d)) (y||decide (i=a)),s.b⟩:=by
   refine d6r (p:=fun i n=> ∀ q,ops[i]? =some q->∀ x y,(i=d->x=false)->(i=a->y=false)->a0b pg.toCx (b0u pg n) q ⟨ε i,Hs x y,s.b⟩=some ⟨ε (i+1),Hs (x||decide (i=d)) (y||decide (i=a)),s.b⟩) (fun i n n' hn h q hq x y h1 h2=>a0n (a8o pg hn) (h q hq x y h1 h2)) m (fun i hi=>?_)
   have hil:i < ops.length:=Nat.lt_of_lt_of_le hi D.le
   have hq:=List.getElem?_eq_getElem hil
   have one:∀ x y,∃ n,(i=d->x=false)->(i=a->y=false)->a0b pg.toCx (b0u pg n) ops[i] ⟨ε i,Hs x y,s.b⟩=some ⟨ε (i+1),Hs (x||decide (i=d)) (y||decide (i=a)),s.b⟩:=fun x y=>by
     by_cases c1:i=d->x=false
     ·by_cases c2:i=a->y=false
      ·obtain⟨n,hn⟩:=a8z (D.run i _ x y hi hq c1 c2);exact⟨n,fun _ _=>hn⟩
      ·exact⟨0,fun _ h=>absurd h c2⟩
     ·exact⟨0,fun h=>absurd h c1⟩
   obtain⟨n1,g1⟩:=one false false
   obtain⟨n2,g2⟩:=one false true
   obtain⟨n3,g3⟩:=one true false
   obtain⟨n4,g4⟩:=one true true
   refine⟨n1+n2+n3+n4,fun q hq2 x y h1 h2=>?_⟩
   rw[hq]at hq2
   cases hq2
   cases x<;>cases y
   ·exact a0n (a8o pg om) (g1 h1 h2)
   ·exact a0n (a8o pg om) (g2 h1 h2)
   ·exact a0n (a8o pg om) (g3 h1 h2)
   ·exact a0n (a8o pg om) (g4 h1 h2)
  obtain⟨n,hn⟩:=key
  exact⟨n,.inr (.inl ⟨d,a,ε,val,Hs,D.ld,D.la,D.ne,D.le,D.zero,D.h0,D.env,fun i q x y hi hq h1 h2=>hn i hi q hq x y h1 h2⟩)⟩
 have key:∃ n,∀ i,i < m->∀ q,ops[i]? =some q->a0b pg.toCx (b0u pg n) q (τ i)=some (τ (i+1))/\(i < d->a0b pg.toCx (b0u pg n) q ⟨(τ i).e,(τ (d+1)).h,s.b⟩=some ⟨(τ (i+1)).e,(τ (d+1)).h,s.b⟩)/\(d < i->(∃ t,od.dst=some t/\t∈q.names)\/a0b pg.toCx (b0u pg n) q ⟨(τ i).e,s.h,s.b⟩=some ⟨(τ (i+1)).e,s.h,s.b⟩):=by
  refine d6r (p:=fun i n=> ∀ q,ops[i]? =some q->a0b pg.toCx (b0u pg n) q (τ i)=some (τ (i+1))/\(i < d->a0b pg.toCx (b0u pg n) q ⟨(τ i).e,(τ (d+1)).h,s.b⟩=some ⟨(τ (i+1)).e,(τ (d+1)).h,s.b⟩)/\(d < i->(∃ t,od.dst=some t/\t∈q.names)\/a0b pg.toCx (b0u pg n) q ⟨(τ i).e,s.h,s.b⟩=some ⟨(τ (i+1)).e,s.h,s.b⟩)) (fun i n n' hn h q hq=>?_) m (fun i hi=>?_)
  ·obtain⟨a,b,c⟩:=h q hq
   exact⟨a0n (a8o pg hn) a,fun x=>a0n (a8o pg hn) (b x),fun x=>(c x).imp id (a0n (a8o pg hn))⟩
  ·have hil:i < ops.length:=Nat.lt_of_lt_of_le hi D.le
   have hq:=List.getElem?_eq_getElem hil
   obtain⟨n1,h1⟩:=a8z (D.step i _ hi hq).1
   obtain⟨n2,h2⟩:∃ n,i < d->a0b pg.toCx (b0u pg n) ops[i] ⟨(τ i).e,(τ (d+1)).h,s.b⟩=some ⟨(τ (i+1)).e,(τ (d+1)).h,s.b⟩:=by
    by_cases c:i < d
    ·obtain⟨n,hn⟩:=a8z (D.ahead i _ c hq);exact⟨n,fun _=>hn⟩
    ·exact⟨0,fun x=>absurd x c⟩
   obtain⟨n3,h3⟩:∃ n,d < i->(∃ t,od.dst=some t/\t∈ops[i].names)\/a0b pg.toCx (b0u pg n) ops[i] ⟨(τ i).e,s.h,s.b⟩=some ⟨(τ (i+1)).e,s.h,s.b⟩:=by
    by_cases c:d < i
    ·rcases D.behind i _ c hi hq with x|x
     ·exact⟨0,fun _=> .inl x⟩
     ·obtain⟨n,hn⟩:=a8z x;exact⟨n,fun _=> .inr hn⟩
    ·exact⟨0,fun x=>absurd x c⟩
   refine⟨max n1 (max n2 n3),fun q hq2=>?_⟩
   rw[hq]at hq2
   cases hq2
   have l1:n1<=max n1 (max n2 n3):=Nat.le_max_left ..
   have l2:n2<=max n1 (max n2 n3):=Nat.le_trans (Nat.le_max_left n2 n3) (Nat.le_max_right ..)
   have l3:n3<=max n1 (max n2 n3):=Nat.le_trans (Nat.le_max_right n2 n3) (Nat.le_max_right ..)
   exact⟨a0n (a8o pg l1) h1,fun x=>a0n (a8o pg l2) (h2 x),fun x=>(h3 x).imp id (a0n (a8o pg l3))⟩
 obtain⟨n,hn⟩:=key
 exact⟨n,.inl ⟨d,od,τ,val,D.lt,D.le,D.odx,D.zero,fun i q hi hq=>⟨(hn i hi q hq).1,(D.step i q hi hq).2⟩,D.quiet,fun i q hi hq=>(hn i (Nat.lt_trans hi D.lt) q hq).2.1 hi,fun i q h1 h2 hq=>(hn i h2 q hq).2.2 h1⟩⟩
theorem e6i {m:Nat} {ops:List a0c} {s r:St} (h:b0x pg.toCx (evF pg) m ops s=some r):∃ n,b0x pg.toCx (b0u pg n) m ops s=some r:=by
 obtain⟨h1,h2⟩:=a3h.1 h
 obtain⟨n1,g1⟩:=b8y h1
 rcases h2 with⟨q,hq⟩|hD
 ·obtain⟨n2,g2⟩:=c1c hq
  exact⟨max n1 n2,a3h.2 ⟨a2k (a8o pg (Nat.le_max_left ..)) g1,.inl ⟨q,a7e (a8o pg (Nat.le_max_right ..)) g2⟩⟩⟩
 ·obtain⟨n2,g2⟩:=e9h hD
  exact⟨max n1 n2,a3h.2 ⟨a2k (a8o pg (Nat.le_max_left ..)) g1,.inr (c8y (a8o pg (Nat.le_max_right ..)) g2)⟩⟩
theorem d6f:∀ {c:a0m} {s:St} {r:Ex×St},evC pg.toCx (evF pg) (evL pg) c s=some r->∃ n,evC pg.toCx (b0u pg n) (c2f pg n) c s=some r:=by
 intro c
 induction c with
 |skip=>intro s r h;exact⟨0,h⟩
 |reg ops=>
  intro s r h;simp only[evC]at h⊢
  cases hx:a0k pg.toCx (evF pg) ops s with
  |none=>rw[hx]at h;cases h
  |some q=>rw[hx]at h;obtain⟨n,hn⟩:=b8y hx;exact⟨n,by rw[hn];exact h⟩
 |draw m ops=>
  intro s r h;simp only[evC]at h⊢
  cases hx:b0x pg.toCx (evF pg) m ops s with
  |none=>rw[hx]at h;cases h
  |some q=>rw[hx]at h;obtain⟨n,hn⟩:=e6i hx;exact⟨n,by rw[hn];exact h⟩
 |seq a b iha ihb=>
  intro s r h;simp only[evC]at h⊢
  cases hx:evC pg.toCx (evF pg) (evL pg) a s with
  |none=>rw[hx]at h;cases h
  |some q=>
   obtain⟨x,s'⟩:=q
   rw[hx]at h
   obtain⟨n,hn⟩:=iha hx
   cases x with
   |nrm=>
    obtain⟨m,hm⟩:=ihb h
    refine⟨max n m,?_⟩
    rw[a8l (a8o pg (Nat.le_max_left n m)) (e4v pg (Nat.le_max_left n m)) hn]
    exact a8l (a8o pg (Nat.le_max_right n m)) (e4v pg (Nat.le_max_right n m)) hm
   |exit i=>exact⟨n,by rw[hn];exact h⟩
   |ret=>exact⟨n,by rw[hn];exact h⟩
 |cond c a b iha ihb=>
  intro s r h;simp only[evC]at h⊢
  split at h
  ·split at h
   ·rename_i hb;simp only[if_pos hb];exact iha h
   ·rename_i hb;simp only[if_neg hb];exact ihb h
  ·cases h
 |block id b ih=>
  intro s r h;simp only[evC]at h⊢
  cases hx:evC pg.toCx (evF pg) (evL pg) b s with
  |none=>rw[hx]at h;cases h
  |some q=>rw[hx]at h;obtain⟨n,hn⟩:=ih hx;exact⟨n,by rw[hn];exact h⟩
 |scope b ih=>intro s r h;simp only[evC]at h⊢;exact ih h
 |loop k b ih=>
  intro s r h;simp only[evC]at h⊢
  cases hx:evC pg.toCx (evF pg) (evL pg) b ⟨a1d k s.e,s.h,s.h.length⟩with
  |none=>rw[hx]at h;cases h
  |some q=>
   obtain⟨x,s'⟩:=q
   rw[hx]at h
   obtain⟨n,hn⟩:=ih hx
   cases x with
   |nrm=>
    obtain⟨m,hm⟩:=c9v.1 h
    refine⟨max n m,?_⟩
    rw[a8l (a8o pg (Nat.le_max_left n m)) (e4v pg (Nat.le_max_left n m)) hn]
    exact e4v pg (Nat.le_max_right n m) _ _ _ _ hm
   |exit i=>exact⟨n,by rw[hn];exact h⟩
   |ret=>exact⟨n,by rw[hn];exact h⟩
 |exit i=>intro s r h;exact⟨0,h⟩
 |ret=>intro s r h;exact⟨0,h⟩
 |newrow a b=>intro s r h;exact⟨0,h⟩
 |bindrow a b c=>intro s r h;exact⟨0,h⟩
 |mkrow a=>intro s r h;exact⟨0,h⟩
 |bindto a b c=>intro s r h;exact⟨0,h⟩
 |freeze a=>intro s r h;exact⟨0,h⟩
end fin
noncomputable def ev (pg:Pg) (c:a0m) (s:St):Option (Ex×St):=evC pg.toCx (evF pg) (evL pg) c s
theorem e6u {α:Type} {a b:Option α} (h1:∀ r,a=some r->b=some r) (h2:∀ r,b=some r->a=some r):a=b:=by
 cases ha:a with
 |some r=>exact(h1 r ha).symm
 |none=>
  cases hb:b with
  |none=>rfl
  |some r=>rw[h2 r hb]at ha;cases ha
theorem f8n (pg:Pg) (k:List Nat) (b:a0m) (s:St):evL pg k b s=ev pg (.loop k b) s:=by
 refine e6u (fun r h=>?_) (fun r h=>?_)
 ·obtain⟨n,hn⟩:=c9v.1 h
  cases n with
  |zero=>rw[b1o]at hn;cases hn
  |succ n=>rw[a9j]at hn;exact a8l (f0e pg n) (f8x pg n) hn
 ·obtain⟨n,hn⟩:=d6f h
  exact c9v.2 ⟨n+1,by rw[a9j];exact hn⟩
theorem b9c {pg:Pg} {f:Nat} {F:List V->Hp->Option (V×Hp)} (ht:pg.tbl f=some (.prim F)) (a:List V) (h:Hp):evF pg f a h=F a h:=by
 refine e6u (fun r hr=>?_) (fun r hr=>?_)
 ·obtain⟨n,hn⟩:=a7c.1 hr
  cases n with
  |zero=>rw[b1r]at hn;cases hn
  |succ n=>rw[a7o,c2t,ht]at hn;exact hn
 ·exact a7c.2 ⟨1,by rw[a7o,c2t,ht];exact hr⟩
noncomputable def e4t (pg:Pg) (vf:VFn) (a:List V) (h:Hp):Option (V×Hp):=
 match ev pg vf.body ⟨a1z a,h,h.length⟩with
 |some (.nrm,s)|some (.ret,s)=>leave vf h.length s
 |_=>none
theorem c3m {pg:Pg} {f:Nat} {vf:VFn} (ht:pg.tbl f=some (.code vf)) (a:List V) (h:Hp):
 evF pg f a h=if a.length=vf.np then bare (a1a 0 a && !vf.keep) h (e4t pg vf a) else none:=by
 refine e6u (fun r hr=>?_) (fun r hr=>?_)
 ·obtain⟨n,hn⟩:=a7c.1 hr
  cases n with
  |zero=>rw[b1r]at hn;cases hn
  |succ n=>
   rw[a7o,c2t,ht]at hn
   simp only at hn
   split at hn
   ·rename_i hl;rw[if_pos hl]
    refine d0u (fun h r hn=>?_) hn
    cases hx:evC pg.toCx (b0u pg n) (c2f pg n) vf.body ⟨a1z a,h,h.length⟩with
    |none=>rw[hx]at hn;cases hn
    |some q=>rw[hx]at hn;rw[e4t,ev,a8l (f0e pg n) (f8x pg n) hx];exact hn
   ·cases hn
 ·split at hr
  ·rename_i hl
   have key:∀ h r,e4t pg vf a h=some r->∃ n,(match evC pg.toCx (b0u pg n) (c2f pg n) vf.body ⟨a1z a,h,h.length⟩with
       |some (.nrm,s)|some (.ret,s)=>leave vf h.length s
       |_=>none)=some r:=by
     intro h r hr
     rw[e4t]at hr
     cases hx:ev pg vf.body ⟨a1z a,h,h.length⟩with
     |none=>rw[hx]at hr;cases hr
     |some q=>
      rw[hx]at hr
      obtain⟨n,hn⟩:=d6f hx
      exact⟨n,by rw[hn];exact hr⟩
   cases ht':(a1a 0 a && !vf.keep)with
   |true=>
    rw[ht']at hr
    simp only[bare]at hr
    obtain⟨q,hq,rfl⟩:=Option.map_eq_some_iff.1 hr
    obtain⟨n,hn⟩:=key _ _ hq
    refine a7c.2 ⟨n+1,?_⟩
    rw[a7o,c2t,ht]
    simp only[if_pos hl,ht',bare]
    exact congrArg (Option.map fun r=>(r.1,h)) hn
   |false=>
    rw[ht']at hr
    simp only[bare]at hr
    obtain⟨n,hn⟩:=key _ _ hr
    refine a7c.2 ⟨n+1,?_⟩
    rw[a7o,c2t,ht]
    simp only[if_pos hl,ht',bare]
    exact hn
  ·cases hr
end Go.Vm
namespace Go.Vm
def Clean (n:Nat) (H:Hp):Prop:=∀ i c,i < n->H[i]? =some (.box c)->a1a n c=true
def f8a (C:Nat->List Value) (l:List (D×D)) (es:List MapEntry):Prop:=es.length=l.length/\∀ (i:Nat) p e,l[i]? =some p->es[i]? =some e->a3j C p.1 e.key/\a3j C p.2 e.val/\e.born=i
def d6a (g:Gh) (H:Hp) (w:World) (b cap:Nat):Ob->Prop
 | .box c=> ∃ cur e,w.heap[b]? =some (.cells cur e (0,0))/\a1e g H c cur.toList/\g.C b=[]
 | .frz c=>a1j g.C c (g.C b)
 | .map l=>(∃ es:Array MapEntry,w.heap[b]? =some (.map es l.length)/\f8a g.C l es.toList)/\g.C b=[]
 | .row sz l=> ∃ cur e,w.heap[b]? =some (.cells cur e (0,0))/\a1w g.C sz l (g.C b)/\0 < sz/\l.length<=cap/\cur.size=cap*sz/\cap<=maxLen
def f5h (cx:Cx) (g:Gh) (w:World):Prop:=∀ i o,cx.fx i=some o->w.heap[i]? =some o/\∀ k c,g.J k≠some (i,c)
structure Inv (cx:Cx) (g:Gh) (H:Hp) (w:World):Prop where
 inj:∀ i k b c c',g.J i=some (b,c)->g.J k=some (b,c')->i=k
 dom:∀ i b c,g.J i=some (b,c)->i < H.length/\b < w.heap.size
 ob:∀ i b c o,g.J i=some (b,c)->H[i]? =some o->d6a g H w b c o
 imm:∀ b,g.C b≠[]->∃ cur e fz,w.heap[b]? =some (.cells cur e fz)/\g.C b <+:cur.toList
 und:Clean H.length H
 glob:∀ i,∃ vs,vs <+:g.C i/\a1j g.C (cx.gv i) vs
 fix:f5h cx g w
theorem f5h.mono {cx:Cx} {g g':Gh} {w w':World} (h:f5h cx g w) (hh:∀ b,b < w.heap.size->(∀ k c,g.J k≠some (b,c))->w'.heap[b]? =w.heap[b]? /\∀ k c,g'.J k≠some (b,c)):f5h cx g' w':=fun i o hi=>by
  obtain⟨h1,h2⟩:=h i o hi
  obtain⟨h3,h4⟩:=hh i (Array.getElem?_eq_some_iff.1 h1).1 h2
  exact⟨h3.trans h1,h4⟩
structure Ext (nb:Nat) (g:Gh) (H:Hp) (w:World) (g':Gh) (H':Hp) (w':World):Prop where
 os:w'.os=w.os
 tape:w'.tape=w.tape
 output:w'.output=w.output
 size:w.heap.size<=w'.heap.size
 frame:∀ b,b < w.heap.size->(∀ i c,g.J i≠some (b,c))->w'.heap[b]? =w.heap[b]? /\g'.C b=g.C b
 keep:Keep H.length g H g' H'
 jnew:∀ i b c,g'.J i=some (b,c)->b < w.heap.size->∃ k c',g.J k=some (b,c')
 clean:∀ n,n<=nb->Clean n H->Clean n H'
 len:H.length<=H'.length
theorem Ext.refl (nb:Nat) (g:Gh) (H:Hp) (w:World):Ext nb g H w g H w:=
 ⟨rfl,rfl,rfl,Nat.le_refl _,fun _ _ _=>⟨rfl,rfl⟩,Keep.refl _ _ _,fun i _ c h _=>⟨i,c,h⟩,fun _ _ h=>h,Nat.le_refl _⟩
theorem Ext.trans {nb nb':Nat} {g g1 g2:Gh} {H H1 H2:Hp} {w w1 w2:World} (h:Ext nb g H w g1 H1 w1) (k:Ext nb' g1 H1 w1 g2 H2 w2) (hb:nb<=nb'):Ext nb g H w g2 H2 w2:=by
 refine⟨k.os.trans h.os,k.tape.trans h.tape,k.output.trans h.output,Nat.le_trans h.size k.size,fun b hb hj=>?_,h.keep.trans k.keep h.len,fun i b c hi hlt=>?_,fun n hn hc=>k.clean n om (h.clean n hn hc),Nat.le_trans h.len k.len⟩
 ·obtain⟨a1,a2⟩:=h.frame b hb hj
  obtain⟨b1,b2⟩:=k.frame b (Nat.lt_of_lt_of_le hb h.size) (fun i c hi=>by
    obtain⟨k',c',hk⟩:=h.jnew i b c hi hb
    exact hj k' c' hk)
  exact⟨b1.trans a1,b2.trans a2⟩
 ·obtain⟨k1,c1,h1⟩:=k.jnew i b c hi (Nat.lt_of_lt_of_le hlt h.size)
  exact h.jnew k1 b c1 h1 hlt
theorem Ext.le {nb nb':Nat} {g g':Gh} {H H':Hp} {w w':World} (h:Ext nb g H w g' H' w') (hn:nb'<=nb):Ext nb' g H w g' H' w':=
 ⟨h.os,h.tape,h.output,h.size,h.frame,h.keep,h.jnew,fun n hn'=>h.clean n om,h.len⟩
def b0p (g:Gh) (H:Hp) (N:Nat) (e:Env) (t:Array Value):Prop:=
 t.size=N/\∀ i,i < N->Rep g H (a1g e i) (t.getD i undef)/\(a1g e i).und H.length=true
mutual
theorem V.b1k {n m:Nat} (h:n<=m):∀ v:V,v.und n=true->v.und m=true
 | .d _,_=>rfl
 | .agg l,u=>by simp only[V.und]at u⊢;exact a3p h l u
 | .tup l,u=>by simp only[V.und]at u⊢;exact a3p h l u
 | .nils,_=>rfl
 | .row id _,u=>by simp only[V.und,decide_eq_true_eq]at u⊢;omega
 | .arr id _ _,u=>by simp only[V.und,decide_eq_true_eq]at u⊢;omega
 | .ptr id _,u=>by simp only[V.und,decide_eq_true_eq]at u⊢;omega
 | .mp id,u=>by simp only[V.und,decide_eq_true_eq]at u⊢;omega
 | .ro _ _,_=>rfl
 | .fn _ l,u=>by simp only[V.und]at u⊢;exact a3p h l u
 | .fm _ l,u=>by simp only[V.und]at u⊢;exact a3p h l u
 | .nul,_=>rfl
 | .nof,_=>rfl
 | .ifc _,_=>rfl
 | .raw _,_=>rfl
 | .nmp,_=>rfl
 | .nile,_=>rfl
 | .undef,_=>rfl
theorem a3p {n m:Nat} (h:n<=m):∀ l:List V,a1a n l=true->a1a m l=true
 |[],_=>rfl
 |v::l,u=>by
  simp only[a1a,Bool.and_eq_true]at u⊢
  exact⟨V.b1k h v u.1,a3p h l u.2⟩
end
theorem b0p.ext {nb:Nat} {g g':Gh} {H H':Hp} {w w':World} {N:Nat} {e:Env} {t:Array Value} (h:b0p g H N e t) (x:Ext nb g H w g' H' w'):b0p g' H' N e t:=
 ⟨h.1,fun i hi=>⟨a4p x.keep.w _ _ (h.2 i hi).2 (h.2 i hi).1,V.b1k x.len _ (h.2 i hi).2⟩⟩
def g2m (d:Option Nat) (x:Value) (t:Array Value):Array Value:=match d with|some d=>t.setIfInBounds d x|none=>t
theorem b0p.put {g:Gh} {H:Hp} {N:Nat} {e:Env} {t:Array Value} (h:b0p g H N e t) {d:Option Nat} {v:V} {x:Value} (hd:∀ k,d=some k->k < N) (hr:Rep g H v x) (hu:v.und H.length=true):
 b0p g H N (a6w d v e) (g2m d x t):=by
 cases d with
 |none=>exact h
 |some k=>
  simp only[g2m]
  refine⟨by simpa using h.1,fun i hi=>?_⟩
  have hk:=hd k rfl
  simp only[a6w,a1g]
  by_cases hki:k=i
  ·subst hki
   rw[if_pos rfl]
   have:(t.setIfInBounds k x).getD k undef=x:=by simp[Array.getD,h.1,hi]
   rw[this]
   exact⟨hr,hu⟩
  ·rw[if_neg hki]
   have:(t.setIfInBounds k x).getD i undef=t.getD i undef:=by
    simp only[Array.getD_eq_getD_getElem?,Array.getElem?_setIfInBounds]
    rw[if_neg hki]
   rw[this]
   exact h.2 i hi
end Go.Vm
namespace Go.Vm
inductive a0i (P:Program) (cx:Cx) (nb:Nat) (g:Gh) (H:Hp) (w:World) (r:V) (H':Hp):Result Next->Prop
 |val (g':Gh) (x:Value) (w':World):Inv cx g' H' w'->Rep g' H' r x->r.und H'.length=true->Ext nb g H w g' H' w'->a0i P cx nb g H w r H' (.ok (.value x) w')
 |skip (g':Gh) (w':World):Inv cx g' H' w'->r= .undef->Ext nb g H w g' H' w'->a0i P cx nb g H w r H' (.ok .skip w')
 |call (f:FuncId) (args:Array Value):Calls P f args w (fun e w'=> ∃ g' x,e= .returned x/\Inv cx g' H' w'/\Rep g' H' r x/\r.und H'.length=true/\Ext nb g H w g' H' w')->a0i P cx nb g H w r H' (.ok (.enter f args) w)
theorem a0i.wp {P:Program} {cx:Cx} {nb:Nat} {g:Gh} {H:Hp} {w:World} {r:V} {H':Hp} {o:Oper} {a:Act} {K:Act->World->Prop} {Q:Exit->Act->World->Prop}
 (h:a0i P cx nb g H w r H' ((execOp a.eval o).run P w))
 (hk:∀ g' x w',Inv cx g' H' w'->Rep g' H' r x->r.und H'.length=true->Ext nb g H w g' H' w'->K (a.put o.dst x) w'):o.wp P a w K Q:=by
 unfold Oper.wp
 generalize(execOp a.eval o).run P w=res at h
 cases h with
 |val g' x w' h1 h2 h3 h4=>exact hk g' x w' h1 h2 h3 h4
 |skip g' w' h1 h2 h4=>subst h2;exact hk g' Go.undef w' h1 trivial rfl h4
 |call f args hc=>
  rw[Oper.upon_enter]
  refine hc.mono fun e w' he=>?_
  obtain⟨g',x,rfl,h1,h2,h3,h4⟩:=he
  exact hk g' x w' h1 h2 h3 h4
section
variable {P:Program} {cx:Cx} {nb:Nat} {g:Gh} {H:Hp} {w:World}
theorem a0i.pure {r:V} {x:Value} {res:Result Next} (hI:Inv cx g H w) (he:res= .ok (.value x) w) (hr:Rep g H r x) (hu:r.und H.length=true):a0i P cx nb g H w r H res:=by
 subst he
 exact .val g x w hI hr hu (Ext.refl ..)
theorem a9n:∀ {l:List D} {vs:List Value},a1j g.C l vs->a1e g H (l.map V.d) vs
 |[],vs,r=>by simp only[a1j]at r;subst r;simp[a1e]
 |d::ds,vs,r=>by
  simp only[a1j]at r
  obtain⟨y,ys,rfl,h1,h2,h3⟩:=r
  simp only[List.map_cons,a1e]
  refine⟨y,ys,rfl,?_,?_,a9n h3⟩
  ·cases d<;>first|rfl|cases h1
  ·simp only[Rep];exact d8r h1 h2
theorem a8y (n:Nat):∀ l:List D,a1a n (l.map V.d)=true
 |[]=>rfl
 |d::ds=>by simp only[List.map_cons,a1a,a8y n ds,Bool.and_true];rfl
theorem c3p:∀ {l:List V} {ds:List D} {vs:List Value},b4x l=some ds->a1e g H l vs->a1j g.C ds vs
 |[],ds,vs,h,r=>by simp only[b4x,Option.some.injEq]at h;subst h;simpa only[a1e,a1j] using r
 |v::l,ds,vs,h,r=>by
  simp only[a1e]at r
  obtain⟨y,ys,rfl,h1,h2,h3⟩:=r
  cases v with
  |d x=>
   simp only[b4x]at h
   obtain⟨xs,hx,rfl⟩:=Option.map_eq_some_iff.1 h
   simp only[a1j]
   have hone:x.one=true:=by cases x<;>first|rfl|cases h1
   refine⟨y,ys,rfl,hone,?_,c3p hx h3⟩
   simp only[Rep]at h2
   cases x<;>first|exact h2|cases hone
  |_=>simp[b4x]at h
theorem b7z {l:List V} {vs:List Value} (r:a1e g H l vs):Rep g H (a9z l) (.agg vs.toArray):=by
 unfold a9z
 split
 ·rename_i ds hd
  simp only[Rep,a3j]
  exact⟨_,rfl,by simpa using c3p hd r⟩
 ·simp only[Rep]
  exact⟨_,rfl,by simpa using r⟩
theorem b8k {l:List V} {n:Nat} (r:a1a n l=true):(a9z l).und n=true:=by
 unfold a9z
 split
 ·rfl
 ·simpa only[V.und] using r
theorem c4a {v:V} {x:Value} (ho:v.cells.all V.one=true) (r:Rep g H v x):a1e g H v.cells x.cells.toList:=by
 have one (hv:v.one=true) (hc:v.cells=[v]) (hx:x.cells= #[x]):a1e g H v.cells x.cells.toList:=by
  rw[hc,hx];simp only[a1e];exact⟨x,[],rfl,hv,r,rfl⟩
 cases v with
 |d d=>
  cases d with
  |agg l=>
   simp only[Rep,a3j]at r
   obtain⟨cs,rfl,r⟩:=r
   exact a9n r
  |bool b=>exact one rfl rfl (by simp only[Rep,a3j,a0q]at r;cases r;rfl)
  |int k n=>exact one rfl rfl (by simp only[Rep,a3j,a0q]at r;cases r;rfl)
  |str s=>exact one rfl rfl (by simp only[Rep,a3j,a0q]at r;cases r;rfl)
  |sl l=>exact one rfl rfl (by simp only[Rep,a3j,a0q]at r;obtain⟨a,cap,h,_⟩:=r;cases h;rfl)
 |agg l=>
  simp only[Rep]at r
  obtain⟨cs,rfl,r⟩:=r
  exact r
 |tup l=>cases ho
 |undef=>cases ho
 |nils=>exact one rfl rfl (by simp only[Rep]at r;subst r;rfl)
 |row id len=>exact one rfl rfl (by simp only[Rep]at r;obtain⟨a,cap,sz,l,rfl,_⟩:=r;rfl)
 |arr id off len=>exact one rfl rfl (by simp only[Rep]at r;obtain⟨_,b,c,cap,_,rfl,_⟩:=r;rfl)
 |ptr id off=>exact one rfl rfl (by simp only[Rep]at r;obtain⟨_,b,c,_,rfl⟩:=r;rfl)
 |mp id=>exact one rfl rfl (by simp only[Rep]at r;obtain⟨_,b,c,_,rfl⟩:=r;rfl)
 |ro l off=>exact one rfl rfl (by simp only[Rep]at r;obtain⟨b,o,vs,rfl,_⟩:=r;rfl)
 |fn f c=>exact one rfl rfl (by simp only[Rep]at r;obtain⟨cs,rfl,_⟩:=r;rfl)
 |fm f c=>exact one rfl rfl (by simp only[Rep]at r;obtain⟨cs,rfl,_⟩:=r;rfl)
 |nul=>exact one rfl rfl (by simp only[Rep]at r;subst r;rfl)
 |nof=>exact one rfl rfl (by simp only[Rep]at r;subst r;rfl)
 |ifc b=>exact one rfl rfl (by simp only[Rep]at r;rcases r with⟨_,rfl⟩|⟨_,t,y,rfl⟩<;>rfl)
 |raw y=>cases ho
 |nmp=>exact one rfl rfl (by simp only[Rep]at r;subst r;rfl)
 |nile=>exact one rfl rfl (by simp only[Rep]at r;obtain⟨a,rfl,_⟩:=r;rfl)
theorem b8n {v:V} {n:Nat} (u:v.und n=true) (ho:v.cells.all V.one=true):a1a n v.cells=true:=by
 cases v with
 |d d=>cases d<;>first|rfl|exact a8y n _
 |agg l=>simpa only[V.und,V.cells] using u
 |tup l=>cases ho
 |undef=>cases ho
 |_=>simp only[V.cells,a1a,Bool.and_true];exact u
theorem a3k:∀ {l:List V} {vs:List Value},a1e g H l vs->vs.length=l.length
 |[],vs,r=>by simp only[a1e]at r;subst r;rfl
 |d::ds,vs,r=>by
  simp only[a1e]at r
  obtain⟨y,ys,rfl,_,_,h3⟩:=r
  simp[a3k h3]
theorem g2e {v:V} {x:Value} (h:v.one=true) (r:Rep g H v x):x.oneCell'=true:=by
 cases v with
 |d d=>
  simp only[Rep]at r
  cases d with
  |agg l=>cases h
  |_=>exact c3r rfl r
 |agg l=>cases h
 |tup l=>cases h
 |undef=>cases h
 |nils=>simp only[Rep]at r;subst r;rfl
 |row id len=>simp only[Rep]at r;obtain⟨a,cap,sz,l,rfl,_⟩:=r;rfl
 |arr id off len=>simp only[Rep]at r;obtain⟨_,b,c,cap,_,rfl,_⟩:=r;rfl
 |ptr id off=>simp only[Rep]at r;obtain⟨_,b,c,_,rfl⟩:=r;rfl
 |mp id=>simp only[Rep]at r;obtain⟨_,b,c,_,rfl⟩:=r;rfl
 |ro l off=>simp only[Rep]at r;obtain⟨b,o,vs,rfl,_⟩:=r;rfl
 |fn f c=>simp only[Rep]at r;obtain⟨cs,rfl,_⟩:=r;rfl
 |fm f c=>simp only[Rep]at r;obtain⟨cs,rfl,_⟩:=r;rfl
 |nul=>simp only[Rep]at r;subst r;rfl
 |nof=>simp only[Rep]at r;subst r;rfl
 |ifc b=>simp only[Rep]at r;rcases r with⟨_,rfl⟩|⟨_,t,y,rfl⟩<;>rfl
 |raw y=>cases h
 |nmp=>simp only[Rep]at r;subst r;rfl
 |nile=>simp only[Rep]at r;obtain⟨a,rfl,_⟩:=r;rfl
theorem c9c:∀ {l:List V} {vs:List Value},a1e g H l vs->∀ v∈vs,v.oneCell'=true
 |[],vs,r,v,hv=>by simp only[a1e]at r;subst r;cases hv
 |d::ds,vs,r,v,hv=>by
  simp only[a1e]at r
  obtain⟨y,ys,rfl,h1,h2,h3⟩:=r
  cases hv with
  |head=>exact g2e h1 h2
  |tail _ hm=>exact c9c h3 v hm
theorem b3m:∀ {l:List V} {vs:List Value} {i:Nat} {v:V},a1e g H l vs->l[i]? =some v->∃ y,vs[i]? =some y/\v.one=true/\Rep g H v y
 |[],vs,i,d,r,h=>by simp at h
 |d::ds,vs,0,d',r,h=>by
  simp only[a1e]at r
  obtain⟨y,ys,rfl,h1,h2,h3⟩:=r
  simp only[List.getElem?_cons_zero,Option.some.injEq]at h
  subst h
  exact⟨y,rfl,h1,h2⟩
 |d::ds,vs,i+1,d',r,h=>by
  simp only[a1e]at r
  obtain⟨y,ys,rfl,h1,h2,h3⟩:=r
  simp only[List.getElem?_cons_succ]at h⊢
  exact b3m h3 h
theorem b5i:∀ {l:List V} {vs:List Value} (k:Nat),a1e g H l vs->a1e g H (l.take k) (vs.take k)
 |[],vs,k,r=>by simp only[a1e]at r;subst r;simp[a1e]
 |d::ds,vs,0,r=>by simp[a1e]
 |d::ds,vs,k+1,r=>by
  simp only[a1e]at r
  obtain⟨y,ys,rfl,h1,h2,h3⟩:=r
  simp only[List.take_succ_cons,a1e]
  exact⟨y,ys.take k,rfl,h1,h2,b5i k h3⟩
theorem b4z:∀ {l:List V} {vs:List Value} (k:Nat),a1e g H l vs->a1e g H (l.drop k) (vs.drop k)
 |[],vs,k,r=>by simp only[a1e]at r;subst r;simp[a1e]
 |d::ds,vs,0,r=>by simpa using r
 |d::ds,vs,k+1,r=>by
  simp only[a1e]at r
  obtain⟨y,ys,rfl,h1,h2,h3⟩:=r
  simp only[List.drop_succ_cons]
  exact b4z k h3
theorem b9w {n:Nat}:∀ {l:List V} {i:Nat} {v:V},a1a n l=true->l[i]? =some v->v.und n=true
 |[],i,v,_,h=>by simp at h
 |x::xs,0,v,u,h=>by
  simp only[a1a,Bool.and_eq_true]at u
  simp only[List.getElem?_cons_zero,Option.some.injEq]at h
  subst h;exact u.1
 |x::xs,i+1,v,u,h=>by
  simp only[a1a,Bool.and_eq_true]at u
  simp only[List.getElem?_cons_succ]at h
  exact b9w u.2 h
theorem b9x {n:Nat}:∀ {l:List V} (k:Nat),a1a n l=true->a1a n (l.drop k)=true
 |[],k,u=>by simp[a1a]
 |x::xs,0,u=>by simpa using u
 |x::xs,k+1,u=>by
  simp only[a1a,Bool.and_eq_true]at u
  simp only[List.drop_succ_cons]
  exact b9x k u.2
theorem b9a {n:Nat}:∀ {l:List V} (k:Nat),a1a n l=true->a1a n (l.take k)=true
 |[],k,u=>by simp[a1a]
 |x::xs,0,u=>by simp[a1a]
 |x::xs,k+1,u=>by
  simp only[a1a,Bool.and_eq_true]at u
  simp only[List.take_succ_cons,a1a,Bool.and_eq_true]
  exact⟨u.1,b9a k u.2⟩
theorem c3i {v:V} {d:D} {x:Value} (hI:Inv cx g H w) (h:a9y H v=some d) (r:Rep g H v x):a3j g.C d x:=by
 cases v with
 |d y=>simp only[a9y,Option.some.injEq]at h;subst h;simpa only[Rep] using r
 |nils=>simp only[a9y,Option.some.injEq]at h;subst h;simp only[Rep]at r;subst r;exact⟨none,0,rfl,Nat.le_refl _,.inl rfl⟩
 |nile=>simp only[a9y,Option.some.injEq]at h;subst h;simp only[Rep]at r;obtain⟨a,rfl,_⟩:=r;exact⟨a,0,rfl,Nat.le_refl _,.inl rfl⟩
 |row id len=>
  simp only[Rep]at r
  obtain⟨a,cap,sz,l,rfl,ho,h1,h2⟩:=r
  simp only[a9y,ho]at h
  split at h
  ·rename_i hl
   simp only[Option.some.injEq]at h
   subst h
   simp only[a3j,a0q]
   refine⟨a,cap,by rw[hl],?_⟩
   rcases h2 hl.symm with⟨h0,_,_⟩|⟨b,hJ,rfl⟩
   ·rw[h0]at hl
    have:=List.eq_nil_of_length_eq_zero hl
    subst this
    exact⟨Nat.zero_le _,.inl rfl⟩
   ·have:=hI.ob id b cap _ hJ ho
    obtain⟨cur,e,_,h4,h5,h6,_⟩:=this
    exact⟨h6,.inr ⟨b,0,sz,g.C b,rfl,h5,by simp,h4⟩⟩
  ·cases h
 |arr id off len=>
  simp only[Rep]at r
  obtain⟨⟨o,ho,_⟩,b,c,cap,hJ,rfl,hlc⟩:=r
  simp only[a9y,ho]at h
  split at h
  ·rename_i c' hc
   simp only[Option.some.injEq]at hc
   subst hc
   split at h
   ·rename_i hl
    simp only[Option.some.injEq]at h
    subst h
    simp only[a3j,a0q]
    refine⟨_,cap,by simp;omega,by simp;omega,.inr ⟨b,off,1,((g.C b).drop off).take len,rfl,om,List.take_prefix _ _,?_⟩⟩
    have:=hI.ob id b c _ hJ ho
    exact e1o (c8m len (c8e off this))
   ·cases h
  ·cases h
 |_=>simp[a9y]at h
theorem e1x (hI:Inv cx g H w):∀ {l:List V} {ds:List D} {vs:List Value},d8b H l=some ds->a1e g H l vs->a1j g.C ds vs
 |[],ds,vs,h,r=>by simp only[d8b,Option.some.injEq]at h;subst h;simpa only[a1e,a1j] using r
 |v::l,ds,vs,h,r=>by
  simp only[a1e]at r
  obtain⟨y,ys,rfl,h1,h2,h3⟩:=r
  simp only[d8b]at h
  split at h
  ·rename_i x xs hx hxs
   simp only[Option.some.injEq]at h
   subst h
   simp only[a1j]
   have hrep:=c3i hI hx h2
   have hone:x.one=true:=by
    cases v with
    |d q=>simp only[a9y,Option.some.injEq]at hx;subst hx;cases q<;>first|rfl|cases h1
    |nils=>simp only[a9y,Option.some.injEq]at hx;subst hx;rfl
    |nile=>simp only[a9y,Option.some.injEq]at hx;subst hx;rfl
    |row id len=>simp only[a9y]at hx;split at hx<;>first|(split at hx<;>cases hx;rfl)|cases hx
    |arr id off len=>simp only[a9y]at hx;split at hx<;>first|(split at hx<;>cases hx;rfl)|cases hx
    |_=>simp[a9y]at hx
   refine⟨y,ys,rfl,hone,?_,e1x hI hxs h3⟩
   cases x<;>first|exact hrep|cases hone
  ·cases h
theorem c4u {v:V} {d:D} {x:Value} (hI:Inv cx g H w) (h:toD H v=some d) (r:Rep g H v x):a3j g.C d x:=by
 cases v with
 |agg l=>
  simp only[toD]at h
  obtain⟨ds,hd,rfl⟩:=Option.map_eq_some_iff.1 h
  simp only[Rep]at r
  obtain⟨cs,rfl,r⟩:=r
  exact⟨cs,rfl,e1x hI hd r⟩
 |_=>exact c3i hI (by simpa only[toD] using h) r
theorem f2k {v:V} {x:Value} (hI:Inv cx g H w) (r:Rep g H v x):Rep g H (toArg H v) x:=by
 unfold toArg
 split
 ·rename_i d hd;simp only[Rep];exact c4u hI hd r
 ·exact r
theorem f1e {v:V} {n:Nat} (u:v.und n=true):(toArg H v).und n=true:=by
 unfold toArg
 split
 ·rfl
 ·exact u
end
end Go.Vm
namespace Go.Vm
section
variable {P:Program} {cx:Cx} {nb:Nat} {g:Gh} {H:Hp} {w:World}
theorem c1l {x:Value} {v:V} (h:d5h x=some v):Rep g H v x/\v.und 0=true/\v.one=true:=by
 unfold d5h at h
 split at h<;>first|cases h|skip
 ·exact⟨by simp[Rep,a3j,a0q],rfl,rfl⟩
 ·exact⟨by simp[Rep,a3j,a0q],rfl,rfl⟩
 ·rename_i s
  refine⟨?_,rfl,rfl⟩
  simp only[Rep,a3j,a0q]
 ·exact⟨by simp[Rep],rfl,rfl⟩
 ·exact⟨by simp[Rep],rfl,rfl⟩
 ·exact⟨by simp[Rep],rfl,rfl⟩
 ·exact⟨by simp[Rep],rfl,rfl⟩
 ·exact⟨by simp[Rep],rfl,rfl⟩
theorem a4i:∀ {xs:List Value} {l:List V},b4e xs=some l->a1e g H l xs/\a1a 0 l=true
 |[],l,h=>by simp only[b4e,Option.some.injEq]at h;subst h;exact⟨by simp[a1e],rfl⟩
 |x::xs,l,h=>by
  simp only[b4e]at h
  split at h
  ·rename_i v vs hv hvs
   simp only[Option.some.injEq]at h
   subst h
   obtain⟨h1,h2,h3⟩:=c1l (g:=g) (H:=H) hv
   obtain⟨h4,h5⟩:=a4i hvs
   exact⟨by simp only[a1e];exact⟨x,xs,rfl,h3,h1,h4⟩,by simp only[a1a,h2,h5,Bool.and_self]⟩
  ·cases h
theorem a0r {N:Nat} {e:Env} {a:Act} (hI:Inv cx g H w) (hE:b0p g H N e a.tmps) {x:Operand} {vx:Opd} (h:a8q x=some vx) (hl:vx.lt N=true):
 Rep g H (evO cx e vx) (a.eval x)/\(evO cx e vx).und H.length=true:=by
 unfold a8q at h
 split at h
 ·rename_i t
  simp only[Option.some.injEq]at h
  subst h
  exact hE.2 t (by simpa [Opd.lt] using hl)
 ·rename_i c
  obtain⟨l,hl',rfl⟩:=Option.map_eq_some_iff.1 h
  obtain⟨h1,h2⟩:=a4i (g:=g) (H:=H) hl'
  have:=b7z h1
  refine⟨?_,V.b1k (Nat.zero_le _) _ (b8k h2)⟩
  simpa [evO,Act.eval] using this
 ·rename_i v _
  obtain⟨q,hq,rfl⟩:=Option.map_eq_some_iff.1 h
  obtain⟨h1,h2,_⟩:=c1l (g:=g) (H:=H) hq
  exact⟨h1,V.b1k (Nat.zero_le _) _ h2⟩
 ·rename_i i
  simp only[Option.some.injEq]at h
  subst h
  obtain⟨vs,h1,h2⟩:=hI.glob i
  refine⟨?_,rfl⟩
  simp only[evO,Rep,Act.eval]
  exact⟨i,0,vs,rfl,by simpa using h1,h2⟩
 ·simp only[Option.some.injEq]at h
  subst h
  refine⟨?_,rfl⟩
  simp only[evO,Rep,Act.eval]
  exact⟨#[],rfl,by simp[a0z]⟩
theorem c5k {N:Nat} {e:Env} {a:Act} (hI:Inv cx g H w) (hE:b0p g H N e a.tmps):∀ {xs:List Operand} {vs:List Opd},b5w xs=some vs->vs.all (Opd.lt N)=true->
 a0z g H (vs.map (evO cx e)) (xs.map a.eval)/\a1a H.length (vs.map (evO cx e))=true
 |[],vs,h,_=>by simp only[b5w,Option.some.injEq]at h;subst h;exact⟨by simp[a0z],rfl⟩
 |x::xs,vs,h,hl=>by
  simp only[b5w]at h
  split at h
  ·rename_i v vs' hv hvs
   simp only[Option.some.injEq]at h
   subst h
   simp only[List.all_cons,Bool.and_eq_true]at hl
   obtain⟨h1,h2⟩:=a0r hI hE hv hl.1
   obtain⟨h3,h4⟩:=c5k hI hE hvs hl.2
   exact⟨by simp only[List.map_cons,a0z];exact⟨_,_,rfl,h1,h3⟩,by simp only[List.map_cons,a1a,h2,h4,Bool.and_self]⟩
  ·cases h
theorem b1g (hI:Inv cx g H w):∀ {l:List V} {vs:List Value},a0z g H l vs->a0z g H (l.map (toArg H)) vs
 |[],vs,r=>by simpa only[a0z,List.map_nil] using r
 |v::l,vs,r=>by
  simp only[a0z,List.map_cons]at r⊢
  obtain⟨y,ys,rfl,h1,h2⟩:=r
  exact⟨y,ys,rfl,f2k hI h1,b1g hI h2⟩
theorem c5e {n:Nat}:∀ {l:List V},a1a n l=true->a1a n (l.map (toArg H))=true
 |[],_=>rfl
 |v::l,u=>by
  simp only[a1a,List.map_cons,Bool.and_eq_true]at u⊢
  exact⟨f1e u.1,c5e u.2⟩
theorem b4m:∀ {l l':List V} {vs vs':List Value},a0z g H l vs->a0z g H l' vs'->a0z g H (l++l') (vs++vs')
 |[],l',vs,vs',r,r'=>by simp only[a0z]at r;subst r;exact r'
 |v::l,l',vs,vs',r,r'=>by
  simp only[a0z]at r
  obtain⟨y,ys,rfl,h1,h2⟩:=r
  simp only[List.cons_append,a0z]
  exact⟨y,ys++vs',rfl,h1,b4m h2 r'⟩
theorem a9q {n:Nat}:∀ {l l':List V},a1a n l=true->a1a n l'=true->a1a n (l++l')=true
 |[],l',_,u'=>u'
 |v::l,l',u,u'=>by
  simp only[a1a,List.cons_append,Bool.and_eq_true]at u⊢
  exact⟨u.1,a9q u.2 u'⟩
theorem a9g {k:IntKind} {n:Int} {x:Value} (r:Rep g H (.d (.int k n)) x):x= .int k n:=by simp only[Rep,a3j,a0q]at r;cases r;rfl
theorem b2k {b:Bool} {x:Value} (r:Rep g H (.d (.bool b)) x):x= .bool b:=by simp only[Rep,a3j,a0q]at r;cases r;rfl
theorem c0y {s:List UInt8} {x:Value} (r:Rep g H (.d (.str s)) x):x= .string ⟨s.toArray⟩:=by simp only[Rep,a3j,a0q]at r;cases r;rfl
theorem a5q (k:IntKind) (n:Int):Rep g H (.d (.int k n)) (.int k n):=by simp[Rep,a3j,a0q]
theorem a5d (b:Bool):Rep g H (.d (.bool b)) (.bool b):=by simp[Rep,a3j,a0q]
theorem d6j (s:List UInt8):Rep g H (.d (.str s)) (.string ⟨s.toArray⟩):=by simp[Rep,a3j,a0q]
theorem g1e {op:BinOp} {vx vy r:V} {x y:Value} (t:TypeId) (h:a9i op vx vy=some r) (rx:Rep g H vx x) (ry:Rep g H vy y) (tx ty:Operand):
 ∃ z,(do eqGuard op t tx ty x y;binOp op t x y:Sem Value).run P w= .ok z w/\Rep g H r z/\r.und H.length=true:=by
 unfold a9i at h
 split at h
 ·rename_i k a k' b
  obtain rfl:=a9g rx
  obtain rfl:=a9g ry
  have hg:∀ op,(eqGuard op t tx ty (.int k a) (.int k' b)).run P w= .ok () w:=by
   intro op;cases op<;>simp[eqGuard]
  simp only[Sem.run_bind,hg,Result.andThen_ok]
  cases op<;>simp only at h
  case shl=>
   split at h<;>cases h
   refine⟨_,?_,a5q _ _,rfl⟩
   simp[binOp,Op.shift];omega
  case shr=>
   split at h<;>cases h
   refine⟨_,?_,a5q _ _,rfl⟩
   simp[binOp,Op.shift];omega
  case and|or|xor|andNot=>
   split at h
   ·rename_i hk;subst hk
    simp only[d0v,Option.map_some,Option.some.injEq]at h
    subst h
    exact⟨_,by simp[binOp,Op.intBits],a5q _ _,rfl⟩
   ·cases h
  case quo|rem=>
   split at h<;>cases h
   rename_i hk
   obtain⟨rfl,hb⟩:=hk
   exact⟨_,by simp[binOp,Op.intDiv,hb],a5q _ _,rfl⟩
  case add|sub|mul=>
   split at h<;>cases h
   rename_i hk;subst hk
   exact⟨_,by simp[binOp,Op.intArith],a5q _ _,rfl⟩
  all_goals
   split at h<;>cases h
   rename_i hk;subst hk
   exact⟨_,by simp[binOp,Op.intCmp],a5d _,rfl⟩
 ·rename_i a b
  obtain rfl:=c0y rx
  obtain rfl:=c0y ry
  have hg:∀ op,(eqGuard op t tx ty (.string ⟨a.toArray⟩) (.string ⟨b.toArray⟩)).run P w= .ok () w:=by
   intro op;cases op<;>simp[eqGuard]
  simp only[Sem.run_bind,hg,Result.andThen_ok]
  cases op<;>simp only at h<;>first|cases h|skip
  case add=>
   split at h<;>cases h
   rename_i hl
   refine⟨.string ⟨(a++b).toArray⟩,?_,d6j _,rfl⟩
   have hs:¬ ((((⟨a.toArray⟩:ByteArray).size+(⟨b.toArray⟩:ByteArray).size:Nat):Int) > IntKind.i64.max):=by
    simp[ByteArray.size,IntKind.max,IntKind.signed,IntKind.bits];omega
   simp only[binOp,Op.stringOp,if_neg hs,Sem.run_pure]
   first|(congr 2;done)|(congr 2;apply ByteArray.ext;simp)
  ·exact⟨.bool (a==b),by simp[binOp,Op.stringOp],a5d _,rfl⟩
  ·exact⟨.bool (!(a==b)),by simp[binOp,Op.stringOp],a5d _,rfl⟩
 ·cases h
end
end Go.Vm
