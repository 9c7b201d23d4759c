import GoSem.Dispatch
import Derived.KernelRfl
import Derived.Laws.AppendOwn
import Derived.Laws.Sem
import Derived.Calls
import Derived.WalkKit
import Derived.Laws.StructEq
set_option maxHeartbeats 0
set_option linter.defProp false
set_option linter.unusedVariables false
set_option linter.unusedSimpArgs false
theorem om {P:Prop} (h:P:=by(omega)):P:=h
theorem kr {P:Prop} (h:P:=by(kernel_rfl)):P:=h
def aa:=@Option.some.injEq
def ab:=@Bool.and_eq_true
def ae:=@List.getElem?_eq_getElem
def af:=@of_decide_eq_true
def ag:=@List.append_assoc
def ah:=@List.length_append
def ai:=@Nat.le_refl
def aj:=@Option.map_eq_some_iff
def ak:=@decide_eq_false
def al:=@List.cons_append
def an:=@decide_eq_true_eq
def ao:=@And.intro
def aq:=@List.nil_append
def au:=@decide_eq_true
def av:=@List.getD_eq_getElem?_getD
def aw:=@List.length_cons
def ay:=@if_pos
def az:=@List.getElem?_eq_some_iff
def aA:=@if_neg
def aB:=@List.map_cons
def aC:=@List.all_eq_true
def aD:=@List.getElem?_append_left
def aE:=@List.length_map
def aG:=@congrArg
def aH:=@List.length_nil
def aI:=@Option.map_some
def aJ:=@List.prefix_refl
def aK:=@List.getElem?_append_right
def aM:=@List.map_append
def aN:=@Prod.mk.injEq
def aO:=@Exists.intro
def aP:=@Option.bind_some
def aQ:=@List.all_cons
def aR:=@Nat.zero_le
def aS:=@Array.getElem?_eq_some_iff
def aT:=@List.mem_of_getElem?
def aV:=@List.getElem?_cons_zero
def aX:=@List.getElem?_set_ne
def aZ:=@List.getElem?_take
def bg:=@Bool.or_eq_true
def bh:=@List.length_drop
def bm:=@List.length_take
def bo:=@Bool.and_true
def bp:=@List.map_nil
def bq:=@List.drop_zero
def bs:=@List.mem_cons
def bt:=@Nat.zero_add
def bu:=@List.getElem?_set_self
def bw:=@of_decide_eq_false
def bB:=@List.take_of_length_le
def bC:=@List.append_nil
def bE:=@List.getElem?_map
def bG:=@List.take_append_drop
def bI:=@List.mem_cons_of_mem
def bJ:=@List.map_congr_left
def bL:=@List.mem_cons_self
def bM:=@List.getElem?_eq_none
def bO:=@List.all_nil
def bR:=@List.getElem?_cons_succ
def bS:=@List.cons.injEq
def bU:=@List.drop_eq_nil_of_le
def bV:=@List.drop_eq_getElem_cons
def bX:=@decide_eq_false_iff_not
def bY:=@Option.bind_eq_some_iff
def bZ:=@List.eq_nil_of_length_eq_zero
def b8:=@Int.toNat_natCast
def cb:=@List.take_length
def cd:=@List.mem_append
def ch:=@Nat.lt_of_lt_of_le
def cm:=@List.drop_succ_cons
def cn:=@Nat.le_max_right
def cp:=@List.length_eq_zero_iff
def cr:=@List.drop_drop
def cw:=@List.getElem?_drop
def cz:=@eq_false_of_ne_true
def cB:=@List.take_succ_cons
def cF:=@Bool.and_self
def cI:=@Int.le_refl
def cK:=@List.not_mem_nil
def cN:=@Nat.le_max_left
def cU:=@if_true
def cV:=@List.map_map
def cW:=@List.mem_singleton
def cX:=@List.length_set
def dc:=@List.length_pos_iff
def dh:=@Function.comp_def
def dr:=@Nat.min_eq_left
def dv:=@Bool.not_eq_true'
def dD:=@Nat.le_trans
def dG:=@List.getElem_mem
def dH:=@Array.ext'
def dL:=@List.take_add_one
def dR:=@Nat.sub_self
def dV:=@List.nil_prefix
def eb:=@Bool.or_eq_true_iff
def ec:=@List.length_singleton
def ep:=@Nat.add_zero
def eD:=@List.range_eq_range'
def eE:=@Bool.true_and
def eG:=@Array.getElem?_eq_getElem
def eH:=@Nat.add_mul
def eM:=@Nat.add_assoc
def eP:=@Bool.false_eq_true
def eT:=@Array.toList_inj
def eW:=@List.map_take
def e9:=@List.mem_map
def fa:=@List.ext_getElem?
def fi:=@Classical.byContradiction
def fp:=@List.mem_iff_getElem?
def fC:=@List.take_append_of_le_length
def fD:=@List.mem_range
def fG:=@List.getElem?_set
def fK:=@Option.pure_def
def fL:=@List.foldl_cons
def fQ:=@and_true
def fR:=@List.getD_cons_zero
def fX:=@List.range'_succ
def gr:=@List.take_take
def gC:=@Nat.not_lt_zero
def gR:=@or_false
def gT:=@Nat.mul_le_mul_right
def gV:=@List.flatMap_cons
def gX:=@Array.replicate_zero
def gY:=@Array.replicate_succ
def ir:=@List.getD_cons_succ
def iu:=@List.append_toArray
def iE:=@if_false
def iF:=@List.mapM_cons
def iG:=@List.getElem?_replicate
def iK:=@decide_true
def iL:=@Nat.one_mul
def iZ:=@beq_iff_eq
def ja:=@Nat.add_comm
def jb:=@List.set_cons_zero
def ji:=@List.all_append
def jj:=@Bool.eq_iff_iff
def jn:=@List.sum_cons
def jx:=@List.singleton_append
def jy:=@List.length_replicate
def jz:=@List.contains_iff_mem
def jA:=@Array.getElem?_toList
def jH:=@Nat.lt_trichotomy
def jI:=@List.size_toArray
def jJ:=@List.push_toArray
def jK:=@Array.getD_eq_getD_getElem?
def jW:=@List.mem_of_mem_take
def jX:=@List.drop_left
def j8:=@Option.getD_some
def kG:=@Option.bind_eq_bind
def kH:=@List.takeWhile_cons
def kI:=@List.getElem_of_mem
def kJ:=@Array.length_toList
def lu:=@List.set_cons_succ
def lx:=@List.prefix_append
def lL:=@Nat.add_sub_cancel_left
def ml:=@List.take_zero
def mn:=@List.foldl_append
def mo:=@List.all_map
def mq:=@Array.getElem?_eq_none
def mF:=@List.set_append_right
def m6:=@Nat.le_of_not_lt
def m7:=@List.take_prefix
def m8:=@List.getElem_map
def m9:=@List.drop_length
def nv:=@List.map_drop
def nw:=@List.mapM_nil
def nx:=@Bool.or_false
def n7:=@Nat.mul_one
namespace Go.Vm
inductive D where
 |bool (b:Bool)
 |int (k:IntKind) (n:Int)
 |str (s:List UInt8)
 |sl (l:List D)
 |agg (l:List D)
 deriving Inhabited
inductive V where
 |d (x:D)
 |agg (l:List V)
 |tup (l:List V)
 |nils
 |row (id len:Nat)
 |arr (id off len:Nat)
 |ptr (id off:Nat)
 |ro (l:List D) (off:Nat)
 |fn (f:Nat) (c:List V)
 |fm (f:Nat) (a:List V)
 |nul
 |nof
 |ifc (isnil:Bool)
 |raw (x:Value)
 |nmp
 |nile
 |mp (id:Nat)
 |undef
 deriving Inhabited
inductive Ob where
 |box (c:List V)
 |frz (c:List D)
 |row (sz:Nat) (l:List D)
 |map (l:List (D×D))
 deriving Inhabited
inductive eo where
 |t (i:Nat)
 |c (v:V)
 |g (i:Nat)
 |f (i:Nat)
 deriving Inhabited
inductive ij where
 |mv (x:eo)
 |pick (c a b:eo)
 |zbox (z:List V)
 |box (x:eo)
 |build (z:List V) (ps:List (Nat×Nat×eo))
 |bslice (sz len:Nat) (ps:List eo)
 |blit (sz len:Nat) (ps:List eo)
 |brow (sz:Nat)
 |ld (n:Option Nat) (x:eo)
 |st (n:Nat) (a x:eo)
 |nilck (x:eo)
 |bin (op:BinOp) (x y:eo)
 |eqa (neg:Bool) (ks:List Nat) (x y:eo)
 |eqb (neg:Bool) (x y:eo)
 |isnil (neg:Bool) (x:eo)
 |un (op:UnOp) (x:eo)
 |conv (k:IntKind) (x:eo)
 |mkfn (f:Nat) (caps:List eo)
 |mkfm (f:Nat) (first:List eo)
 |fld (off:Nat) (n:Option Nat) (x:eo)
 |fadr (off:Nat) (x:eo)
 |iadr (sz:Nat) (x i:eo)
 |iadra (len sz:Nat) (x i:eo)
 |idx (x i:eo)
 |slcs (x:eo) (lo hi:Option eo)
 |slc (sz:Nat) (x:eo) (lo hi:Option eo)
 |ext (x:eo) (i:Nat)
 |call (f:Nat) (args:List eo)
 |callv (f:eo) (args:List eo)
 |len (str:Bool) (x:eo)
 |convs (x:eo)
 |app (sz bytes:Nat) (x y:eo)
 |msl (sz bytes:Nat) (z:List V) (n:eo)
 |mm (max:Bool) (x y:eo)
 |abs (len:Nat) (ps:List eo)
 |mark (x:eo)
 |mkm
 |no
 |rN (kk:Nat) (m k v:eo)
 |mget (kk:Nat) (ok:Bool) (z:D) (m k:eo)
 |ment (kk:Nat) (z:D) (m k:eo)
 |mest (m s v:eo)
 deriving Inhabited
structure aL where
 dst:Option Nat
 op:ij
 guard:Option (Nat×Bool):=none
 deriving Inhabited
inductive aU where
 |skip
 |reg (ops:List aL)
 |draw (m:Nat) (ops:List aL)
 |seq (a b:aU)
 |cond (c:eo) (a b:aU)
 |block (id:Nat) (b:aU)
 |loop (keep:List Nat) (b:aU)
 |scope (b:aU)
 |exit (id:Nat)
 |ret
 |newrow (sz slot:Nat)
 |bindrow (sz slot off:Nat)
 |freeze (slot:Nat)
 |mkrow (sz:Nat)
 |bindto (slot off back:Nat)
 deriving Inhabited
inductive sK where
 |tmp (t:Nat)
 |cell (t:Nat) (n:Option Nat)
 deriving Inhabited
structure kK where
 np:Nat
 nt:Nat
 body:aU
 res:List sK
 keep:Bool:=false
inductive Ex where
 |dN
 |exit (id:Nat)
 |ret
abbrev Env:=List (Nat×V)
abbrev Hp:=List Ob
def D.cells:D->List D
 | .agg l=>l
 |x=>[x]
def V.cells:V->List V
 | .d (.agg l)=>l.map V.d
 | .agg l=>l
 |x=>[x]
def V.one:V->Bool
 | .agg _| .tup _| .d (.agg _)| .undef| .raw _=>false
 |_=>true
def D.one:D->Bool
 | .agg _=>false
 |_=>true
def kC:List V->Option (List D)
 |[]=>some []
 | .d x::r=>(kC r).map (x:: ·)
 |_=>none
def kb (l:List V):V:=match kC l with|some ds=> .d (.agg ds)|none=> .agg l
def im (H:Hp):V->Option D
 | .d x=>some x
 | .nils=>some (.sl [])
 | .nile=>some (.sl [])
 | .row id len=>match H[id]? with|some (.row _ l)=>if l.length=len then some (.sl l) else none|_=>none
 | .arr id off len=>match H[id]? with|some (.frz c)=>if off+len<=c.length then some (.sl ((c.drop off).take len)) else none|_=>none
 |_=>none
def xW (H:Hp):List V->Option (List D)
 |[]=>some []
 |v::r=>match im H v,xW H r with|some x,some xs=>some (x::xs)|_,_=>none
def wu (H:Hp):V->Option D
 | .agg l=>(xW H l).map .agg
 |v=>im H v
def toArg (H:Hp) (v:V):V:=match wu H v with|some x=> .d x|none=>v
def iX (H:Hp):V->V
 | .agg [.row id n]=> .agg [.row id n]
 |v=>toArg H v
def bP:Env->Nat->V
 |[],_=> .undef
 |(k,v)::r,i=>if k=i then v else bP r i
def dU (ks:List Nat) (e:Env):Env:=ks.map fun k=>(k,bP e k)
mutual
/-- Everything that a value leads to stands below n. -/
def V.und (n:Nat):V->Bool
 | .row id _=>decide (id < n)
 | .arr id _ _=>decide (id < n)
 | .ptr id _=>decide (id < n)
 | .mp id=>decide (id < n)
 | .agg l=>br n l
 | .tup l=>br n l
 | .fn _ l=>br n l
 | .fm _ l=>br n l
 |_=>true
def br (n:Nat):List V->Bool
 |[]=>true
 |v::r=>V.und n v && br n r
end
def cut (n:Nat) (e:Env):Env:=e.map fun(k,v)=>(k,if v.und n then v else .undef)
def xH (op:BinOp) (k:IntKind) (x y:Int):Option Int:=
 let a:=BitVec.ofInt k.bits x;let b:=BitVec.ofInt k.bits y;match op with
 | .and=>some (k.wrap (a &&& b).toNat)
 | .or=>some (k.wrap (a|||b).toNat)
 | .xor=>some (k.wrap (a ^^^ b).toNat)
 | .andNot=>some (k.wrap (a &&& ~~~b).toNat)
 |_=>none
def fJ (op:BinOp):V->V->Option V
 | .d (.int k a),.d (.int k' b)=>
  match op with
  | .shl=>if 0<=b then some (.d (.int k (k.wrap (a*2 ^ (min b.toNat k.bits))))) else none
  | .shr=>if 0<=b then some (.d (.int k (a.fdiv (2 ^ (min b.toNat k.bits))))) else none
  | .add=>if k=k' then some (.d (.int k (k.wrap (a+b)))) else none
  | .sub=>if k=k' then some (.d (.int k (k.wrap (a - b)))) else none
  | .mul=>if k=k' then some (.d (.int k (k.wrap (a*b)))) else none
  | .quo=>if k=k'/\b≠0 then some (.d (.int k (k.wrap (a.tdiv b)))) else none
  | .rem=>if k=k'/\b≠0 then some (.d (.int k (a.tmod b))) else none
  | .and=>if k=k' then(xH .and k a b).map fun n=> .d (.int k n) else none
  | .or=>if k=k' then(xH .or k a b).map fun n=> .d (.int k n) else none
  | .xor=>if k=k' then(xH .xor k a b).map fun n=> .d (.int k n) else none
  | .andNot=>if k=k' then(xH .andNot k a b).map fun n=> .d (.int k n) else none
  | .eql=>if k=k' then some (.d (.bool (a==b))) else none
  | .neq=>if k=k' then some (.d (.bool (a !=b))) else none
  | .lss=>if k=k' then some (.d (.bool (decide (a < b)))) else none
  | .leq=>if k=k' then some (.d (.bool (decide (a<=b)))) else none
  | .gtr=>if k=k' then some (.d (.bool (decide (b < a)))) else none
  | .geq=>if k=k' then some (.d (.bool (decide (b<=a)))) else none
 | .d (.str a),.d (.str b)=>
  match op with
  | .add=>if a.length+b.length<=9223372036854775807 then some (.d (.str (a++b))) else none
  | .eql=>some (.d (.bool (a==b)))
  | .neq=>some (.d (.bool !(a==b)))
  |_=>none
 |_,_=>none
def eq1:D->D->Bool
 | .bool a,.bool b=>a==b
 | .int _ a,.int _ b=>a==b
 | .str a,.str b=>a==b
 |_,_=>false
def Si:List D->List D->Bool
 |[],[]=>true
 |a::x,b::y=>eq1 a b && Si x y
 |_,_=>false
def kindOk:List Nat->List D->List D->Bool
 |[],[],[]=>true
 |0::ks,.bool _::a,.bool _::b=>kindOk ks a b
 |1::ks,.int k _::a,.int k' _::b=>k==k' && kindOk ks a b
 |2::ks,.str _::a,.str _::b=>kindOk ks a b
 |_,_,_=>false
def OH (op:UnOp):V->Option V
 | .d (.int k n)=>match op with
   | .neg=>some (.d (.int k (k.wrap (0 - n))))
   |_=>none
 | .d (.bool b)=>match op with
   | .not=>some (.d (.bool !b))
   |_=>none
 |_=>none
def putAt:List V->Nat->List V->List V
 |cs,_,[]=>cs
 |[],_,_=>[]
 |_::cs,0,v::vs=>v::putAt cs 0 vs
 |c::cs,n+1,vs=>c::putAt cs n vs
def p6 (z:List V):List (Nat×Nat×V)->Option (List V)
 |[]=>some z
 |(off,n,v)::r=>if v.cells.length=n/\off+n<=z.length then p6 (putAt z off v.cells) r else none
def mc (H:Hp):V->Option (List V×Nat)
 | .ptr id off=>match H[id]? with
   |some (.box c)=>some (c,off)
   |some (.frz c)=>some (c.map V.d,off)
   |_=>none
 | .ro l off=>some (l.map V.d,off)
 |_=>none
def gI (n:Option Nat) (c:List V) (off:Nat):Option V:=
 match n with
 |none=>c[off]?
 |some n=>if off+n<=c.length then some (kb ((c.drop off).take n)) else none
def o8 (H:Hp) (n:Option Nat) (p:V):Option V:=
 match mc H p with
 |none=>none
 |some (c,off)=>gI n c off
def nf (c:List V) (off:Nat):List V->Bool
 |[.row i _]=>match c[off]? with|some (.row j _)=>Nat.beq i j|_=>false
 |_=>false
def sW (b:Nat) (H:Hp) (n:Nat) (p x:V):Option Hp:=
 match p with
 | .ptr id off=>match H[id]? with
   |some (.box c)=>if x.cells.length=n/\off+n<=c.length/\x.cells.all V.one/\(br id x.cells||decide (b<=id)||nf c off x.cells) then some (H.set id (.box (putAt c off x.cells))) else none
   |_=>none
 |_=>none
def gy (v:V):Option Nat:=match v with| .d (.int _ n)=>if 0<=n then some n.toNat else none|_=>none
def rT (v:V):Option Nat:=match v with
 | .d (.sl l)=>some l.length
 | .nils=>some 0
 | .nile=>some 0
 | .row _ n=>some n
 | .arr _ _ n=>some n
 |_=>none
def lsize (H:Hp) (v:V):Option (List D):=match im H v with|some (.sl l)=>some l|_=>none
def roomy (n bytes:Nat):Prop:=n*bytes<=140737488355328/\n<=9223372036854775807
instance (n b:Nat):Decidable (roomy n b):=inferInstanceAs (Decidable (_/\_))
def ke:Nat->D->Bool
 |0,.bool _=>true
 |1,.int .i64 _=>true
 |2,.str _=>true
 |_,_=>false
def pc (kk:Nat) (l:List (D×D)):Bool:=l.all fun p=>ke kk p.1
def wV (k:D):List (D×D)->Option D
 |[]=>none
 |(a,v)::r=>if eq1 k a then some v else wV k r
def iP (k:D):List (D×D)->Option Nat
 |[]=>none
 |(a,_)::r=>if eq1 k a then some 0 else(iP k r).map (· +1)
def G2 (k v:D):List (D×D)->List (D×D)
 |[]=>[(k,v)]
 |(a,x)::r=>if eq1 k a then(a,v)::r else(a,x)::G2 k v r
def rN (i:Nat) (v:D) (l:List (D×D)):List (D×D):=l.modify i fun p=>(p.1,v)
abbrev iH:=Nat->List V->Hp->Option (V×Hp)
structure Cx where
 gv:Nat->List D
 fx:Nat->Option Obj:=fun _=>none
def di (cx:Cx) (e:Env):eo->V
 | .t i=>bP e i
 | .c v=>v
 | .g i=> .ro (cx.gv i) 0
 | .f i=> .fn i []
def UN (ok:Bool) (z:D) (r:Option D):V:=match ok,r with
 |true,some v=> .tup [.d v,.d (.bool true)]
 |true,none=> .tup [.d z,.d (.bool false)]
 |false,some v=> .d v
 |false,none=> .d z
def bn (cx:Cx) (orc:iH) (b:Nat) (e:Env) (H:Hp):ij->Option (V×Hp)
 | .mv x=>some (di cx e x,H)
 | .pick c a b=>match di cx e c with
   | .d (.bool t)=>some (if t then di cx e a else di cx e b,H)
   |_=>none
 | .zbox z=>some (.ptr H.length 0,H++[.box z])
 | .box x=>let c:=(di cx e x).cells;if c.all V.one then some (.ptr H.length 0,H++[.box c]) else none
 | .build z ps=>if ps.all fun p=>(di cx e p.2.2).cells.all V.one then(p6 z (ps.map fun p=>(p.1,p.2.1,di cx e p.2.2))).map fun c=>(kb c,H) else none
 | .bslice sz len ps=>
  match toDs' cx e H ps with
  |some l=>if l.length=len/\l.all (fun x=>x.cells.length==sz)/\0 < sz/\len*sz<=16777216 then some (.d (.sl l),H) else none
  |none=>none
 | .blit sz len ps=>
  match toDs' cx e H ps with
  |some l=>if l.length=len/\l.all (fun x=>x.cells.length==sz)/\0 < sz/\len*sz<=16777216 then some (.row H.length len,H++[.row sz l]) else none
  |none=>none
 | .brow sz=>if 0 < sz then some (.nile,H) else none
 | .abs len ps=>
  match toDs' cx e H ps with
  |some l=>if l.length=len/\l.all D.one/\len<=16777216 then some (.arr H.length 0 len,H++[.frz l]) else none
  |none=>none
 | .mark x=>match di cx e x with
   | .arr id off len=>match H[id]? with
     |some (.frz _)=>some (.arr id off len,H)
     |_=>none
   |_=>none
 | .ld n x=>(o8 H n (di cx e x)).map fun v=>(v,H)
 | .st n a x=>(sW b H n (di cx e a) (di cx e x)).map fun H'=>(.undef,H')
 | .nilck x=>match di cx e x with
   | .ptr id off=>some (.ptr id off,H)
   | .fn f c=>some (.fn f c,H)
   | .fm f a=>some (.fm f a,H)
   |_=>none
 | .bin op x y=>(fJ op (di cx e x) (di cx e y)).map fun v=>(v,H)
 | .eqa neg ks x y=>match di cx e x,di cx e y with
   | .d (.agg a),.d (.agg b)=>if kindOk ks a b then some (.d (.bool (if neg then !Si a b else Si a b)),H) else none
   |_,_=>none
 | .eqb neg x y=>match di cx e x,di cx e y with
   | .d (.bool a),.d (.bool b)=>some (.d (.bool (if neg then !(a==b) else a==b)),H)
   |_,_=>none
 | .isnil neg x=>match di cx e x with
   | .ifc b=>some (.d (.bool (if neg then !b else b)),H)
   |_=>none
 | .un op x=>(OH op (di cx e x)).map fun v=>(v,H)
 | .conv k x=>match di cx e x with
   | .d (.int _ n)=>some (.d (.int k (k.wrap n)),H)
   |_=>none
 | .mkfn f caps=>some (.fn f (caps.map (di cx e)),H)
 | .mkfm f first=>some (.fm f (first.map (di cx e)),H)
 | .fld off n x=>match di cx e x with
   | .d (.agg c)=>(gI n (c.map V.d) off).map fun v=>(v,H)
   | .agg c=>(gI n c off).map fun v=>(v,H)
   |_=>none
 | .fadr off x=>match di cx e x with
   | .ptr id o=>some (.ptr id (o+off),H)
   | .ro l o=>some (.ro l (o+off),H)
   |_=>none
 | .iadr sz x i=>match gy (di cx e i)with
   |none=>none
   |some n=>match di cx e x with
    | .arr id off len=>if n < len then some (.ptr id (off+n*sz),H) else none
    |v=>match lsize H v with
     |some l=>match l[n]? with
      |some y=>if y.cells.length=sz then some (.ro y.cells 0,H) else none
      |none=>none
     |none=>none
 | .iadra len sz x i=>match gy (di cx e i)with
   |none=>none
   |some n=>if n < len then match di cx e x with
    | .ptr id o=>some (.ptr id (o+n*sz),H)
    | .ro l o=>some (.ro l (o+n*sz),H)
    |_=>none else none
 | .idx x i=>match gy (di cx e i),di cx e x with
   |some n,.d (.str s)=>(s[n]?).map fun b=>(.d (.int .u8 b.toNat),H)
   |_,_=>none
 | .slcs x lo hi=>match di cx e x,bound cx e 0 lo with
   | .d (.str s),some l=>match bound cx e s.length hi with
     |some h=>if l<=h/\h<=s.length then some (.d (.str ((s.take h).drop l)),H) else none
     |none=>none
   |_,_=>none
 | .slc sz x lo hi=>match lsize H (di cx e x),bound cx e 0 lo with
   |some s,some l=>match bound cx e s.length hi with
    |some h=>if l<=h/\h<=s.length/\(lo.isNone||s.all (fun y=>y.cells.length==sz))=true then some (.d (.sl ((s.take h).drop l)),H) else none
    |none=>none
   |_,_=>none
 | .ext x i=>match di cx e x with
   | .tup l=>(l[i]?).map fun v=>(v,H)
   |_=>none
 | .call f args=>orc f (args.map fun x=>iX H (di cx e x)) H
 | .callv f args=>match di cx e f with
   | .fn f c=>orc f (args.map (fun x=>iX H (di cx e x))++c) H
   | .fm f a=>orc f (a++args.map (fun x=>iX H (di cx e x))) H
   |_=>none
 | .len str x=>match str,di cx e x with
   |true,.d (.str s)=>some (.d (.int .i64 s.length),H)
   |false,v=>(rT v).map fun(n:Nat)=>(V.d (.int .i64 (n:Int)),H)
   |_,_=>none
 | .convs x=>match di cx e x with
   | .d (.str s)=>some (.d (.str s),H)
   |_=>none
 | .app sz bytes x y=>match lsize H (di cx e y)with
   |none=>none
   |some ys=>if ys.all (fun y=>y.cells.length==sz)/\0 < sz then
    (match di cx e x with
      | .nile=>if ys=[] then some (.nile,H) else if roomy ys.length bytes then some (.row H.length ys.length,H++[.row sz ys]) else none
      | .nils=>if ys=[] then some (.nils,H) else if roomy ys.length bytes then some (.row H.length ys.length,H++[.row sz ys]) else none
      | .row id len=>match H[id]? with
        |some (.row sz' l)=>if sz'=sz/\l.length=len/\roomy (len+ys.length) bytes then some (.row id (len+ys.length),H.set id (.row sz (l++ys))) else none
        |_=>none
      |_=>none) else none
 | .msl sz bytes z n=>match di cx e n with
   | .d (.int _ n)=>if 0<=n/\roomy n.toNat bytes/\z.length=1/\sz=1 then some (.arr H.length 0 n.toNat,H++[.box (List.replicate n.toNat (z.headD .undef))]) else none
   |_=>none
 | .no=>none
 | .mkm=>some (.mp H.length,H++[.map []])
 | .rN kk m k v=>match di cx e m,di cx e k,wu H (di cx e v)with
   | .mp id,.d k,some v=>match H[id]? with
     |some (.map l)=>if ke kk k && pc kk l then some (.undef,H.set id (.map (G2 k v l))) else none
     |_=>none
   |_,_,_=>none
 | .mget kk ok z m k=>match di cx e m,di cx e k with
   | .mp id,.d k=>match H[id]? with
     |some (.map l)=>if ke kk k && pc kk l then some (UN ok z (wV k l),H) else none
     |_=>none
   |_,_=>none
 | .ment kk z m k=>match di cx e m,di cx e k with
   | .mp id,.d k=>match H[id]? with
     |some (.map l)=>if ke kk k && pc kk l then(match iP k l with
      |some i=>(l[i]?).map fun p=>(.tup [.d p.2,.d (.int .i64 i)],H)
      |none=>some (.tup [.d z,.d (.int .i64 l.length)],H.set id (.map (l++[(k,z)])))) else none
     |_=>none
   |_,_=>none
 | .mest m s v=>match di cx e m,di cx e s,wu H (di cx e v)with
   | .mp id,.d (.int _ n),some v=>match H[id]? with
     |some (.map l)=>if 0<=n/\n.toNat < l.length then some (.undef,H.set id (.map (rN n.toNat v l))) else none
     |_=>none
   |_,_,_=>none
 | .mm mx x y=>match di cx e x,di cx e y with
   | .d (.int k a),.d (.int k' b)=>if k=k' then some (.d (.int k (if mx then max a b else min a b)),H) else none
   |_,_=>none
where
 toDs' (cx:Cx) (e:Env) (H:Hp):List eo->Option (List D)
  |[]=>some []
  |x::r=>match wu H (di cx e x),toDs' cx e H r with|some y,some ys=>some (y::ys)|_,_=>none
 bound (cx:Cx) (e:Env) (dflt:Nat):Option eo->Option Nat
  |none=>some dflt
  |some x=>gy (di cx e x)
structure St where
 e:Env
 h:Hp
 b:Nat
def fT (dst:Option Nat) (v:V) (e:Env):Env:=match dst with|some d=>(d,v)::e|none=>e
def lay (dst:Option Nat) (e:Env) (b:Nat) (r:Option (V×Hp)):Option St:=r.map fun x=>⟨fT dst x.1 e,x.2,b⟩
def grd (v:V) (b:Bool) (dst:Option Nat) (s:St) (r:Option (V×Hp)):Option St:=
 match v with
 | .d (.bool t)=>if t=b then lay dst s.e s.b r else some ⟨fT dst (.tup []) s.e,s.h,s.b⟩
 | .tup []=>some ⟨fT dst (.tup []) s.e,s.h,s.b⟩
 |_=>none
def aW (cx:Cx) (orc:iH) (o:aL) (s:St):Option St:=
 match o.guard with
 |none=>lay o.dst s.e s.b (bn cx orc s.b s.e s.h o.op)
 |some (g,b)=>grd (bP s.e g) b o.dst s (bn cx orc s.b s.e s.h o.op)
def bQ (cx:Cx) (orc:iH):List aL->St->Option St
 |[],s=>some s
 |o::r,s=>(aW cx orc o s).bind (bQ cx orc r)
def fW (n:Nat):Hp->Bool
 |[]=>true
 | .box c::l=>br n c && fW n l
 |_::l=>fW n l
open Classical in
noncomputable def grew (h h':Hp):Bool:=decide (∃ l,h'=h++l) && fW h'.length (h'.drop h.length)
def pw (d:Option Nat) (s:St):Bool:=match d with|some d=>(bP s.e d).und s.h.length|none=>true
noncomputable def eC (cx:Cx) (orc:iH):Nat->List aL->St->Option St
 |_,[],s=>some s
 |0,r,s=>bQ cx orc r s
 |m+1,o::r,s=>(aW cx orc o s).bind fun s'=>if(grew s.h s'.h && pw o.dst s')=true then eC cx orc m r s' else none
structure vb where
 keep:Nat->List Nat
 ghost:Nat->List aU
def BF:Value->Option V
 | .bool b=>some (.d (.bool b))
 | .int k n=>some (.d (.int k n))
 | .string s=>some (.d (.str s.data.toList))
 | .pointer none=>some .nul
 | .slice none 0 0=>some .nils
 | .nilFunc=>some .nof
 | .nilIface=>some (.ifc true)
 | .map none=>some .nmp
 |_=>none
def qa:List Value->Option (List V)
 |[]=>some []
 |x::r=>match BF x,qa r with|some v,some vs=>some (v::vs)|_,_=>none
def iq:Operand->Option eo
 | .tmp t=>some (.t t)
 | .const (.agg c)=>(qa c.toList).map fun l=> .c (kb l)
 | .const v=>(BF v).map .c
 | .global g=>some (.g g)
 | .func f=>some (.f f)
def QA:Option Operand->Option (Option eo)
 |none=>some none
 |some x=>(iq x).map some
def ov:List Operand->Option (List eo)
 |[]=>some []
 |x::r=>match iq x,ov r with|some v,some vs=>some (v::vs)|_,_=>none
def zeroCells (P:Program) (t:TypeId):Option (List V):=
 match P.info? t with
 |some i=>match i.zero with|some z=>qa z.cells.toList|none=>none
 |none=>none
def sizeT (P:Program) (t:TypeId):Option Nat:=(P.info? t).map (·.size)
def b0s (P:Program) (t:TypeId):Option Bool:=(P.underlying t).map fun
 | .struct _| .array _ _=>true
 |_=>false
def rj (P:Program) (t:TypeId):Option (Option Nat):=
 match b0s P t with
 |some true=>(sizeT P t).map some
 |some false=>if sizeT P t=some 1 then some none else none
 |none=>none
def yf (fs:Array Field) (P:Program):List (Nat×Operand)->Option (List (Nat×Nat×eo))
 |[]=>some []
 |(i,x)::r=>match fs[i]?,iq x,yf fs P r with
  |some f,some v,some vs=>(sizeT P f.type).map fun n=>(f.offset,n,v)::vs
  |_,_,_=>none
def L3 (P:Program):Nat->List Field->Option (List Nat)
 |_,[]=>some []
 |n,f::r=>
  if f.offset=n/\f.name≠ "_" then
   match P.underlying f.type,L3 P (n+1) r with
   |some .bool,some ks=>some (0::ks)
   |some (.int _),some ks=>some (1::ks)
   |some .string,some ks=>some (2::ks)
   |_,_=>none
  else none
def kindsT (P:Program) (t:TypeId):Option (List Nat):=
 match P.underlying t with
 |some (.struct fs)=>if P.stoodInHeld t=false/\P.eqGuardType P.depth t=false then L3 P 0 fs.toList else none
 |_=>none
def pY:Nat->List (Nat×Operand)->Bool
 |_,[]=>true
 |n,(i,_)::r=>i==n && pY (n+1) r
def KQ (P:Program) (t:TypeId):Option D:=
 match(P.info? t).bind (·.zero)with
 |some (.agg c)=>((qa c.toList).bind kC).map .agg
 |some v=>match BF v with
  |some (.d x)=>some x
  |_=>none
 |none=>none
def NR (P:Program) (t:TypeId):Option Nat:=match P.underlying t with
 |some .bool=>some 0
 |some (.int .i64)=>some 1
 |some .string=>some 2
 |_=>none
def ny (P:Program):Op->Option ij
 | .move x| .assign x=>(iq x).map .mv
 | .pick c a b=>match iq c,iq a,iq b with|some c,some a,some b=>some (.pick c a b)|_,_,_=>none
 | .alloc t=>(zeroCells P t).map .zbox
 | .box _ x=>(iq x).map .box
 | .build t ps=>match P.underlying t,zeroCells P t with
   |some (.struct fs),some z=>if fs.toList.all (fun f=>(P.info? f.type).isSome) then(yf fs P ps.toList).map fun ps=> .build z ps else none
   |_,_=>none
 | .buildSlice t len ps=>match P.underlying t with
   |some (.slice e)=>match sizeT P e,ov (ps.toList.map (·.2))with
    |some sz,some xs=>if pY 0 ps.toList && xs.length==len && (zeroCells P e).isSome then(match P.underlying e with
     |some (.int .u8)=>none
     |_=>if len=0/\0 < sz then none else some (.bslice sz len xs)) else none
    |_,_=>none
   |_=>none
 | .load t a=>match rj P t,iq a with|some n,some a=>some (.ld n a)|_,_=>none
 | .store t a x=>match sizeT P t,iq a,iq x with|some n,some a,some x=>some (.st n a x)|_,_,_=>none
 | .nilCheck x=>(iq x).map .nilck
 | .binOp op t x y _=>match iq x,iq y with
   |some a,some b=>
    match P.underlying t with
    |some (.int _)|some .string=>some (.bin op a b)
    |some (.interface _)=>(match op,y with
     | .eql,.const .nilIface=>some (.isnil false a)
     | .neq,.const .nilIface=>some (.isnil true a)
     |_,_=>none)
    |_=>none
   |_,_=>none
 | .unOp op _ x=>(iq x).map (.un op)
 | .convert s t x=>match P.underlying s,P.underlying t,iq x with
   |some (.int _),some (.int k),some x=>some (.conv k x)
   |_,_,_=>none
 | .makeFunc (.func f) first caps=>if first.isEmpty then(ov caps.toList).map (.mkfn f) else none
 | .makeSlice t (.tmp l) (.tmp c)=>match P.underlying t with
   |some (.slice e)=>match P.info? e,zeroCells P e with
    |some i,some z=>if l==c then some (.msl i.size i.bytes z (.t l)) else none
    |_,_=>none
   |_=>none
 | .slice t x lo hi none=>match iq x,QA lo,QA hi with
   |some x,some lo,some hi=>match P.underlying t with
    |some .string=>some (.slcs x lo hi)
    |some (.slice e)=>(sizeT P e).map fun sz=> .slc sz x lo hi
    |_=>none
   |_,_,_=>none
 | .fieldAddr s x f=>match P.underlying s,iq x with
   |some (.struct fs),some x=>match fs[f]? with
    |some f=>if sizeT P f.type=some 0 then none else if(sizeT P f.type).isNone then none else some (.fadr f.offset x)
    |none=>none
   |_,_=>none
 | .field t x f=>match P.underlying t,iq x with
   |some (.struct fs),some x=>match fs[f]? with
    |some f=>(rj P f.type).map fun n=> .fld f.offset n x
    |none=>none
   |_,_=>none
 | .indexAddr t x i=>match P.underlying t,iq x,iq i with
   |some (.slice e),some x,some i=>(sizeT P e).map fun sz=> .iadr sz x i
   |_,_,_=>none
 | .index t x i=>match P.underlying t,iq x,iq i with
   |some .string,some x,some i=>some (.idx x i)
   |_,_,_=>none
 | .extract x i=>(iq x).map fun x=> .ext x i
 | .makeMap _ none=>some .mkm
 | .mapUpdate t m k x| .insert t m k x=>match P.underlying t,iq m,iq k,iq x with
   |some (.map kt _),some m,some k,some x=>(NR P kt).map fun kk=> .rN kk m k x
   |_,_,_,_=>none
 | .lookup t m k ok=>match P.underlying t,iq m,iq k with
   |some (.map kt et),some m,some k=>match NR P kt,KQ P et with
    |some kk,some z=>some (.mget kk ok z m k)
    |_,_=>none
   |_,_,_=>none
 | .call c=>match c.callee with
   | .value (.func f)=>(ov c.args.toList).map (.call f)
   | .value (.tmp t)=>(ov c.args.toList).map (.callv (.t t))
   | .builtin .len=>match c.args.toList,c.argTypes.toList with
     |[x],[t]=>match P.underlying t with
      |some .string=>(iq x).map (.len true)
      |some (.slice _)=>(iq x).map (.len false)
      |_=>none
     |_,_=>none
   | .builtin .append=>match c.args.toList,c.argTypes.toList with
     |[x,y],[t,u]=>match P.underlying t,P.underlying u,iq x,iq y with
      |some (.slice e),some (.slice _),some x,some y=>match P.info? e with
       |some i=>if(zeroCells P e).map (·.length)=some i.size/\t=u then some (.app i.size i.bytes x y) else none
       |none=>none
      |_,_,_,_=>none
     |_,_=>none
   | .builtin .max=>match c.args.toList with|[x,y]=>(match iq x,iq y with|some x,some y=>some (.mm true x y)|_,_=>none)|_=>none
   | .builtin .min=>match c.args.toList with|[x,y]=>(match iq x,iq y with|some x,some y=>some (.mm false x y)|_,_=>none)|_=>none
   |_=>none
 |_=>none
def I3 (P:Program) (o:Op):Option ij:=some ((ny P o).getD .no)
def YT (ops:List Oper) (o:Oper):Bool:=match o.op,o.dst with
 | .buildSlice _ _ _,some t=>ops.any fun b=>(match b.op,b.dst with
   | .build _ ps,some u=>(ps.toList.any fun p=>match p.2 with| .tmp x=>x==t|_=>false) && ops.any fun s=>(match s.op with| .store _ _ (.tmp x)=>x==u|_=>false)
   |_,_=>false)
 |_,_=>false
def Rf:Bool->ij->ij
 |true,.bslice sz len ps=> .blit sz len ps
 |_,v=>v
def rb (P:Program) (ops:Array Oper) (o:Oper):Option aL:=
 match(I3 P o.op).map (Rf (YT ops.toList o))with
 |none=>none
 |some v=>match o.guard with
  |none=>some ⟨o.dst,v,none⟩
  |some (j,b)=>match(ops[j]?).bind (·.dst)with
   |some s=>some ⟨o.dst,v,some (s,b)⟩
   |none=>none
def dq (P:Program) (ops:Array Oper):List Oper->Option (List aL)
 |[]=>some []
 |o::r=>match rb P ops o,dq P ops r with|some v,some vs=>some (v::vs)|_,_=>none
def iW (ops:List Oper):List Nat:=
 go ops []
where
 go:List Oper->List Nat->List Nat
  |[],acc=>acc
  |o::r,acc=>go r (acc++[o.after.toList.foldl (fun s e=>if Region.binds .any e then s|||2 ^ e.on|||acc.getD e.on 0 else s) 0])
def ij.fy:ij->List eo
 | .mv x| .box x| .ld _ x| .nilck x| .un _ x| .conv _ x| .fld _ _ x| .fadr _ x| .ext x _| .len _ x| .convs x| .mark x=>[x]
 | .pick c a b=>[c,a,b]
 | .zbox _=>[]
 | .build _ ps=>ps.map fun p=>p.2.2
 | .bslice _ _ ps| .blit _ _ ps=>ps
 | .abs _ ps=>ps
 | .st _ a x=>[a,x]
 | .isnil _ x=>[x]
 | .mkm| .no| .brow _=>[]
 | .rN _ x y z| .mest x y z=>[x,y,z]
 | .mget _ _ _ x y| .ment _ _ x y=>[x,y]
 | .bin _ x y| .eqa _ _ x y| .eqb _ x y| .iadr _ x y| .iadra _ _ x y| .idx x y| .app _ _ x y| .mm _ x y=>[x,y]
 | .mkfn _ c=>c
 | .mkfm _ c=>c
 | .slcs x lo hi| .slc _ x lo hi=>x::(lo.toList++hi.toList)
 | .call _ args=>args
 | .callv f args=>f::args
 | .msl _ _ _ n=>[n]
def eo.slots:eo->List Nat
 | .t i=>[i]
 |_=>[]
def aL.names (o:aL):List Nat:=o.dst.toList++o.op.fy.flatMap eo.slots++(match o.guard with|some (g,_)=>[g]|none=>[])
def eo.lt (N:Nat):eo->Bool
 | .t i=>decide (i < N)
 |_=>true
def aL.gx (N:Nat) (o:aL):Bool:=
 (match o.dst with|some d=>decide (d < N)|none=>true) && o.op.fy.all (eo.lt N) && (match o.guard with|some (g,_)=>decide (g < N)|none=>true)
def aU.gx (N:Nat):aU->Bool
 | .reg ops| .draw _ ops=>ops.all (aL.gx N)
 | .seq a b=>aU.gx N a && aU.gx N b
 | .cond c a b=>eo.lt N c && aU.gx N a && aU.gx N b
 | .block _ b| .scope b=>aU.gx N b
 | .loop ks b=>ks.all (fun k=>decide (k < N)) && aU.gx N b
 | .newrow _ t| .bindrow _ t _| .bindto t _ _| .freeze t=>decide (t < N)
 |_=>true
def kK.ok (f:kK):Bool:=f.body.gx f.nt && f.res.all (fun| .tmp t=>decide (t < f.nt)| .cell t _=>decide (t < f.nt)) && decide (f.np<=f.nt)
def RS (ops:List Oper):Nat:=
 let b:=iW ops;let full (i:Nat):Bool:=b.getD i 0 % 2 ^ i==2 ^ i - 1
 let rec go:Nat->Nat
  |0=>0
  |n+1=>if full n then go n else n+1
 go ops.length
def oF (ops:Array Oper) (vs:List aL) (m:Nat):Bool:=
 let l:=ops.toList;let b:=iW l;let w:=vs.take m
 (l.zipIdx.all fun(o,i)=>o.after.all fun e=> !Region.binds .any e||decide (e.on < i)) &&
 (l.zipIdx.all fun(_,i)=>decide (i < m)||(List.range i).all fun k=>(b.getD i 0).testBit k) &&
 (w.zipIdx.all fun(o,i)=>o.names.all fun t=>w.zipIdx.all fun(p,k)=>
   k==i||p.dst !=some t||(if k < i then(b.getD i 0).testBit k else(b.getD k 0).testBit i)) && decide (m<=vs.length)
def nU:Code->Option Nat
 | .region id _ _=>some id
 | .seq a b=>(nU a).orElse fun _=>nU b
 | .cond _ a b=>(nU a).orElse fun _=>nU b
 | .block _ b| .loop b| .scope b=>nU b
 |_=>none
def jO:List aU->aU->aU
 |[],c=>c
 |g::r,c=> .seq g (jO r c)
def aU.j4:aU->Bool
 | .newrow _ _| .bindrow _ _ _| .freeze _| .mkrow _| .bindto _ _ _=>true
 |_=>false
def vU (A:vb) (b:Code):List aU:=(nU b).elim [] fun i=>A.ghost (i+1000000)
def tr (P:Program) (A:vb):Code->Option aU
 | .skip=>some .skip
 | .label _=>some .skip
 | .region id ops draw=>match dq P ops ops.toList with
   |none=>none
   |some vs=>if(A.ghost id).all aU.j4=false then none else if draw then(if oF ops vs (RS ops.toList) then some (jO (A.ghost id) (.draw (RS ops.toList) vs)) else none)
    else some (jO (A.ghost id) (.reg vs))
 | .seq a b=>match tr P A a,tr P A b with|some x,some y=>some (.seq x y)|_,_=>none
 | .cond c a b=>match iq c,tr P A a,tr P A b with|some c,some x,some y=>some (.cond c x y)|_,_,_=>none
 | .block id b=>(tr P A b).map (.block id)
 | .loop b=>if(vU A b).all aU.j4=false then none else(tr P A b).map fun v=>jO (vU A b) (.loop ((nU b).elim [] A.keep) v)
 | .scope b=>(tr P A b).map .scope
 | .exit id=>some (.exit id)
 | .ret=>some .ret
 |_=>none
def qz (P:Program):List ResultVar->Option (List sK)
 |[]=>some []
 | .tmp t::r=>(qz P r).map (.tmp t:: ·)
 | .cell a t::r=>match rj P t,qz P r with|some n,some rs=>some (.cell a n::rs)|_,_=>none
def vB (P:Program) (A:vb) (keep:Bool) (fn:Func):Option kK:=
 match fn.body with
 |none=>none
 |some c=>match tr P A c,qz P fn.results.toList with
  |some b,some rs=>some ⟨fn.params.size+fn.nfree,fn.ntmps,b,rs,keep⟩
  |_,_=>none
structure Gh where
 J:Nat->Option (Nat×Nat)
 C:Nat->List Value
mutual
def bD (C:Nat->List Value):D->List Value->Prop
 | .bool b,vs=>vs=[.bool b]
 | .int k n,vs=>vs=[.int k n]
 | .str s,vs=>vs=[.string ⟨s.toArray⟩]
 | .agg l,vs=>db C l vs
 | .sl l,vs=> ∃ a cap,vs=[.slice a l.length cap]/\l.length<=cap/\(l=[]\/∃ b off sz us,a=some ⟨b,off,none⟩/\0 < sz/\us <+:(C b).drop off/\dJ C sz l us)
def db (C:Nat->List Value):List D->List Value->Prop
 |[],vs=>vs=[]
 |d::ds,vs=> ∃ y ys,vs=y::ys/\d.one=true/\bD C d [y]/\db C ds ys
def dJ (C:Nat->List Value) (sz:Nat):List D->List Value->Prop
 |[],vs=>vs=[]
 |d::ds,vs=> ∃ v1 v2,vs=v1++v2/\v1.length=sz/\bD C d v1/\dJ C sz ds v2
end
def du (C:Nat->List Value):D->Value->Prop
 | .agg l,x=> ∃ cs:Array Value,x= .agg cs/\db C l cs.toList
 |d,x=>bD C d [x]
theorem lB {α:Type} {a b:List α} (h:a <+:b) (n:Nat):a.drop n <+:b.drop n:=by
 obtain⟨t,rfl⟩:=h;rw[List.drop_append];exact lx _ _
theorem eJ {α:Type} {a b:List α} (h:a <+:b) {i:Nat} {x:α} (hx:a[i]? =some x):b[i]? =some x:=by
 obtain⟨t,rfl⟩:=h;have hi:=(az.1 hx).1;rw[aD hi];exact hx
section mono
variable {C C':Nat->List Value}
mutual
theorem wm (h:∀ b,C b <+:C' b):∀ (d:D) (vs:List Value),bD C d vs->bD C' d vs
 | .bool _,_,r=>r
 | .int _ _,_,r=>r
 | .str _,_,r=>r
 | .agg l,vs,r=>by simp only[bD]at r⊢;exact gq h l vs r
 | .sl l,vs,r=>by
   simp only[bD]at r⊢;obtain⟨a,cap,rfl,hc,r⟩:=r;refine⟨a,cap,rfl,hc,r.imp id ?_⟩;rintro⟨b,off,sz,us,h1,h2,h3,h4⟩;exact⟨b,off,sz,us,h1,h2,h3.trans (lB (h b) off),jV h sz l us h4⟩
theorem gq (h:∀ b,C b <+:C' b):∀ (l:List D) (vs:List Value),db C l vs->db C' l vs
 |[],_,r=>r
 |d::ds,vs,r=>by
  simp only[db]at r⊢;obtain⟨y,ys,rfl,h1,h2,h3⟩:=r;exact⟨y,ys,rfl,h1,wm h d [y] h2,gq h ds ys h3⟩
theorem jV (h:∀ b,C b <+:C' b) (sz:Nat):∀ (l:List D) (vs:List Value),dJ C sz l vs->dJ C' sz l vs
 |[],_,r=>r
 |d::ds,vs,r=>by
  simp only[dJ]at r⊢;obtain⟨v1,v2,rfl,h1,h2,h3⟩:=r;exact⟨v1,v2,rfl,h1,wm h d v1 h2,jV h sz ds v2 h3⟩
end
theorem yJ (h:∀ b,C b <+:C' b) {d:D} {x:Value} (r:du C d x):du C' d x:=by
 cases d with
 |agg l=>obtain⟨cs,rfl,r⟩:=r;exact⟨cs,rfl,gq h _ _ r⟩
 |_=>exact wm h _ _ r
end mono
section facts
variable {C:Nat->List Value}
theorem oJ:∀ {l:List D} {vs:List Value},db C l vs->vs.length=l.length
 |[],vs,r=>by simp only[db]at r;subst r;rfl
 |d::ds,vs,r=>by
  simp only[db]at r;obtain⟨y,ys,rfl,_,_,h3⟩:=r;simp[oJ h3]
theorem mj {d:D} {vs:List Value} (r:bD C d vs):vs.length=d.cells.length:=by
 cases d with
 |bool b=>simp only[bD]at r;subst r;rfl
 |int k n=>simp only[bD]at r;subst r;rfl
 |str s=>simp only[bD]at r;subst r;rfl
 |agg l=>simp only[bD]at r;exact oJ r
 |sl l=>simp only[bD]at r;obtain⟨a,cap,rfl,_⟩:=r;rfl
theorem yK {d:D} {y:Value} (hd:d.one=true) (r:bD C d [y]):y.oneCell'=true:=by
 cases d with
 |bool b=>simp only[bD]at r;cases r;rfl
 |int k n=>simp only[bD]at r;cases r;rfl
 |str s=>simp only[bD]at r;cases r;rfl
 |agg l=>cases hd
 |sl l=>simp only[bD]at r;obtain⟨a,cap,h,_⟩:=r;cases h;rfl
theorem DN:∀ {l:List D} {vs:List Value},db C l vs->∀ v∈vs,v.oneCell'=true
 |[],vs,r,v,hv=>by simp only[db]at r;subst r;cases hv
 |d::ds,vs,r,v,hv=>by
  simp only[db]at r;obtain⟨y,ys,rfl,h1,h2,h3⟩:=r;cases hv with
  |head=>exact yK h1 h2
  |tail _ hm=>exact DN h3 v hm
theorem KM {d:D} {vs:List Value} (r:bD C d vs):∀ v∈vs,v.oneCell'=true:=by
 cases d with
 |agg l=>simp only[bD]at r;exact DN r
 |_=>
  intro v hv;have hl:=mj r;simp only[D.cells,aw,aH]at hl;obtain⟨y,rfl⟩:=List.length_eq_one_iff.1 hl;simp only[cW]at hv;subst hv;exact yK rfl r
theorem gP {sz:Nat}:∀ {l:List D} {vs:List Value},dJ C sz l vs->vs.length=l.length*sz
 |[],vs,r=>by simp only[dJ]at r;subst r;simp
 |d::ds,vs,r=>by
  simp only[dJ]at r;obtain⟨v1,v2,rfl,h1,_,h3⟩:=r;simp[gP h3,h1,eH,ja]
theorem BV {sz:Nat}:∀ {l:List D} {vs:List Value},dJ C sz l vs->∀ v∈vs,v.oneCell'=true
 |[],vs,r,v,hv=>by simp only[dJ]at r;subst r;cases hv
 |d::ds,vs,r,v,hv=>by
  simp only[dJ]at r;obtain⟨v1,v2,rfl,h1,h2,h3⟩:=r;rcases cd.1 hv with hv|hv
  ·exact KM h2 v hv
  ·exact BV h3 v hv
theorem se {sz:Nat}:∀ {l l':List D} {vs vs':List Value},dJ C sz l vs->dJ C sz l' vs'->dJ C sz (l++l') (vs++vs')
 |[],l',vs,vs',r,r'=>by simp only[dJ]at r;subst r;exact r'
 |d::ds,l',vs,vs',r,r'=>by
  simp only[dJ]at r;obtain⟨v1,v2,rfl,h1,h2,h3⟩:=r;simp only[al,dJ];exact⟨v1,v2++vs',by simp,h1,h2,se h3 r'⟩
theorem qS {sz:Nat}:∀ {l:List D} {vs:List Value} {i:Nat} {d:D},dJ C sz l vs->l[i]? =some d->bD C d ((vs.drop (i*sz)).take sz)
 |[],vs,i,d,r,h=>by simp at h
 |d::ds,vs,0,d',r,h=>by
  simp only[dJ]at r;obtain⟨v1,v2,rfl,h1,h2,h3⟩:=r;simp only[aV,aa]at h;subst h;simpa [<-h1] using h2
 |d::ds,vs,i+1,d',r,h=>by
  simp only[dJ]at r;obtain⟨v1,v2,rfl,h1,h2,h3⟩:=r;simp only[bR]at h;have:=qS h3 h;rw[eH,iL,ja,<-h1,List.drop_length_add_append,h1];exact this
theorem BU {sz:Nat}:∀ {l:List D} {vs:List Value} (k:Nat),dJ C sz l vs->dJ C sz (l.take k) (vs.take (k*sz))
 |[],vs,k,r=>by simp only[dJ]at r;subst r;simp[dJ]
 |d::ds,vs,0,r=>by simp[dJ]
 |d::ds,vs,k+1,r=>by
  simp only[dJ]at r;obtain⟨v1,v2,rfl,h1,h2,h3⟩:=r;simp only[cB,dJ];refine⟨v1,v2.take (k*sz),?_,h1,h2,BU k h3⟩;rw[eH,iL,ja,<-h1,List.take_length_add_append]
theorem BW {sz:Nat}:∀ {l:List D} {vs:List Value} (k:Nat),dJ C sz l vs->dJ C sz (l.drop k) (vs.drop (k*sz))
 |[],vs,k,r=>by simp only[dJ]at r;subst r;simp[dJ]
 |d::ds,vs,0,r=>by simpa using r
 |d::ds,vs,k+1,r=>by
  simp only[dJ]at r;obtain⟨v1,v2,rfl,h1,h2,h3⟩:=r;simp only[cm];rw[eH,iL,ja,<-h1,List.drop_length_add_append,h1];exact BW k h3
theorem BX:∀ {l:List D} {vs:List Value} (k:Nat),db C l vs->db C (l.take k) (vs.take k)
 |[],vs,k,r=>by simp only[db]at r;subst r;simp[db]
 |d::ds,vs,0,r=>by simp[db]
 |d::ds,vs,k+1,r=>by
  simp only[db]at r;obtain⟨y,ys,rfl,h1,h2,h3⟩:=r;simp only[cB,db];exact⟨y,ys.take k,rfl,h1,h2,BX k h3⟩
theorem B7:∀ {l:List D} {vs:List Value} (k:Nat),db C l vs->db C (l.drop k) (vs.drop k)
 |[],vs,k,r=>by simp only[db]at r;subst r;simp[db]
 |d::ds,vs,0,r=>by simpa using r
 |d::ds,vs,k+1,r=>by
  simp only[db]at r;obtain⟨y,ys,rfl,h1,h2,h3⟩:=r;simp only[cm];exact B7 k h3
theorem Iz:∀ {l:List D} {vs:List Value},db C l vs->dJ C 1 l vs
 |[],vs,r=>r
 |d::ds,vs,r=>by
  simp only[db]at r;obtain⟨y,ys,rfl,h1,h2,h3⟩:=r;simp only[dJ];exact⟨[y],ys,rfl,rfl,h2,Iz h3⟩
theorem KK {d:D} {x:Value} (r:du C d x):bD C d x.cells.toList:=by
 cases d with
 |agg l=>obtain⟨cs,rfl,r⟩:=r;simpa only[bD,Value.cells] using r
 |bool b=>simp only[du,bD]at r;cases r;simp[bD,Value.cells]
 |int k n=>simp only[du,bD]at r;cases r;simp[bD,Value.cells]
 |str s=>simp only[du,bD]at r;cases r;simp[bD,Value.cells]
 |sl l=>simp only[du]at r;have:=r;simp only[bD]at r;obtain⟨a,cap,h,_⟩:=r;cases h;exact this
theorem IA {d:D} {y:Value} (hd:d.one=true) (r:bD C d [y]):du C d y:=by
 cases d with
 |agg l=>cases hd
 |_=>exact r
theorem qc {d:D} {vs:List Value} (r:bD C d vs):db C d.cells vs:=by
 cases d with
 |agg l=>simpa only[D.cells,bD] using r
 |bool b=>simp only[D.cells,db];simp only[bD]at r;subst r;exact⟨_,_,rfl,rfl,rfl,rfl⟩
 |int k n=>simp only[D.cells,db];simp only[bD]at r;subst r;exact⟨_,_,rfl,rfl,rfl,rfl⟩
 |str s=>simp only[D.cells,db];simp only[bD]at r;subst r;exact⟨_,_,rfl,rfl,rfl,rfl⟩
 |sl l=>
  simp only[D.cells,db];have r':=r;simp only[bD]at r;obtain⟨a,cap,rfl,_⟩:=r;exact⟨_,_,rfl,rfl,r',rfl⟩
end facts
mutual
/-- A value of the model that a value of the machine stands for. -/
def bW (g:Gh) (H:Hp):V->Value->Prop
 | .d x,v=>du g.C x v
 | .agg l,v=> ∃ cs:Array Value,v= .agg cs/\cP g H l cs.toList
 | .tup l,v=> ∃ cs:Array Value,v= .tuple cs/\bN g H l cs.toList
 | .nils,v=>v= .slice none 0 0
 | .row id len,v=> ∃ a cap sz l,v= .slice a len cap/\H[id]? =some (.row sz l)/\len<=l.length/\(len=l.length->(len=0/\a=none/\cap=0)\/∃ b,g.J id=some (b,cap)/\a=some ⟨b,0,none⟩)
 | .arr id off len,v=>(∃ o,H[id]? =some o/\∀ sz l,o≠ .row sz l)/\∃ b c cap,g.J id=some (b,c)/\v= .slice (some ⟨b,off,none⟩) len cap/\len<=cap
 | .ptr id off,v=>(∃ o,H[id]? =some o/\∀ sz l,o≠ .row sz l)/\∃ b c,g.J id=some (b,c)/\v= .pointer (some ⟨b,off,none⟩)
 | .mp id,v=>(∃ o,H[id]? =some o/\∀ sz l,o≠ .row sz l)/\∃ b c,g.J id=some (b,c)/\v= .map (some b)
 | .ro l off,v=> ∃ b o vs,v= .pointer (some ⟨b,o+off,none⟩)/\vs <+:(g.C b).drop o/\db g.C l vs
 | .fn f c,v=> ∃ cs:Array Value,v= .func (.func f) #[] cs/\bN g H c cs.toList
 | .fm f c,v=> ∃ cs:Array Value,v= .func (.func f) cs #[]/\bN g H c cs.toList
 | .nul,v=>v= .pointer none
 | .nof,v=>v= .nilFunc
 | .ifc b,v=>(b=true/\v= .nilIface)\/(b=false/\∃ t y,v= .iface t y)
 | .raw y,v=>v=y
 | .nmp,v=>v= .map none
 | .nile,v=> ∃ a:Option Addr,v= .slice a 0 0/\∀ q,a=some q->q.spot=none
 | .undef,_=>True
/-- Cells. -/
def cP (g:Gh) (H:Hp):List V->List Value->Prop
 |[],vs=>vs=[]
 |x::xs,vs=> ∃ y ys,vs=y::ys/\x.one=true/\bW g H x y/\cP g H xs ys
/-- Components. -/
def bN (g:Gh) (H:Hp):List V->List Value->Prop
 |[],vs=>vs=[]
 |x::xs,vs=> ∃ y ys,vs=y::ys/\bW g H x y/\bN g H xs ys
end
structure Keep (n:Nat) (g:Gh) (H:Hp) (g':Gh) (H':Hp):Prop where
 C:∀ b,g.C b <+:g'.C b
 obj:∀ i o,i < n->H[i]? =some o->(∀ sz l,o≠ .row sz l)->g'.J i=g.J i/\∃ o',H'[i]? =some o'/\∀ sz l,o'≠ .row sz l
 row:∀ i sz l,i < n->H[i]? =some (.row sz l)->∃ l',H'[i]? =some (.row sz l')/\l <+:l'/\(l'.length=l.length->g'.J i=g.J i)
theorem Keep.refl (n:Nat) (g:Gh) (H:Hp):Keep n g H g H:=
 ⟨fun _=>aJ _,fun _ o _ ho h=>⟨rfl,o,ho,h⟩,fun _ _ l _ ho=>⟨l,ho,aJ _,fun _=>rfl⟩⟩
theorem Keep.trans {n m:Nat} {g g1 g2:Gh} {H H1 H2:Hp} (h:Keep n g H g1 H1) (k:Keep m g1 H1 g2 H2) (hm:n<=m):Keep n g H g2 H2:=by
 refine⟨fun b=>(h.C b).trans (k.C b),fun i o hi ho hr=>?_,fun i sz l hi ho=>?_⟩
 ·obtain⟨e1,o',h1,h2⟩:=h.obj i o hi ho hr;obtain⟨e2,o'',h3,h4⟩:=k.obj i o' om h1 h2;exact⟨e2.trans e1,o'',h3,h4⟩
 ·obtain⟨l',h1,h2,h3⟩:=h.row i sz l hi ho;obtain⟨l'',h4,h5,h6⟩:=k.row i sz l' om h1;refine⟨l'',h4,h2.trans h5,fun he=>?_⟩;have a:=h2.length_le;have b:=h5.length_le;rw[h6 om,h3 om]
structure sD (n:Nat) (g:Gh) (H:Hp) (g':Gh) (H':Hp):Prop where
 C:∀ b,g.C b <+:g'.C b
 obj:∀ i o,i < n->H[i]? =some o->(∀ sz l,o≠ .row sz l)->(∀ p,g.J i=some p->g'.J i=some p)/\∃ o',H'[i]? =some o'/\∀ sz l,o'≠ .row sz l
 row:∀ i sz l,i < n->H[i]? =some (.row sz l)->∃ l',H'[i]? =some (.row sz l')/\l <+:l'/\(l'.length=l.length->∀ p,g.J i=some p->g'.J i=some p)
theorem Keep.w {n:Nat} {g g':Gh} {H H':Hp} (k:Keep n g H g' H'):sD n g H g' H':=
 ⟨k.C,fun i o hi ho hr=>⟨fun _ hp=>(k.obj i o hi ho hr).1.trans hp,(k.obj i o hi ho hr).2⟩,fun i sz l hi ho=>by
   obtain⟨l',h1,h2,h3⟩:=k.row i sz l hi ho;exact⟨l',h1,h2,fun he _ hp=>(h3 he).trans hp⟩⟩
section
variable {n:Nat} {g g':Gh} {H H':Hp}
mutual
theorem fk (k:sD n g H g' H'):∀ (v:V) (x:Value),v.und n=true->bW g H v x->bW g' H' v x
 | .d d,x,_,r=>by simp only[bW]at r⊢;exact yJ k.C r
 | .agg l,x,u,r=>by
   simp only[bW]at r⊢;obtain⟨cs,rfl,r⟩:=r;exact⟨cs,rfl,lr k l _ (by simpa only[V.und] using u) r⟩
 | .tup l,x,u,r=>by
   simp only[bW]at r⊢;obtain⟨cs,rfl,r⟩:=r;exact⟨cs,rfl,iY k l _ (by simpa only[V.und] using u) r⟩
 | .nils,x,_,r=>by simpa only[bW] using r
 | .row id len,x,u,r=>by
   simp only[bW]at r⊢;obtain⟨a,cap,sz,l,rfl,ho,r1,r2⟩:=r;simp only[V.und,an]at u;obtain⟨l',h1,h2,h3⟩:=k.row id sz l u ho;have hp:=h2.length_le;refine⟨a,cap,sz,l',rfl,h1,om,fun he=>?_⟩;have e:=h3 om;rcases r2 om with q|⟨b,q1,q2⟩
   ·exact .inl q
   ·exact .inr ⟨b,e _ q1,q2⟩
 | .arr id off len,x,u,r=>by
   simp only[bW]at r⊢;obtain⟨⟨o,ho,hr⟩,b,c,cap,h1,rfl,hlc⟩:=r;simp only[V.und,an]at u;obtain⟨e,q⟩:=k.obj id o u ho hr;exact⟨q,b,c,cap,e _ h1,rfl,hlc⟩
 | .ptr id off,x,u,r=>by
   simp only[bW]at r⊢;obtain⟨⟨o,ho,hr⟩,b,c,h1,rfl⟩:=r;simp only[V.und,an]at u;obtain⟨e,q⟩:=k.obj id o u ho hr;exact⟨q,b,c,e _ h1,rfl⟩
 | .mp id,x,u,r=>by
   simp only[bW]at r⊢;obtain⟨⟨o,ho,hr⟩,b,c,h1,rfl⟩:=r;simp only[V.und,an]at u;obtain⟨e,q⟩:=k.obj id o u ho hr;exact⟨q,b,c,e _ h1,rfl⟩
 | .ro l off,x,_,r=>by
   simp only[bW]at r⊢;obtain⟨b,o,vs,rfl,h1,h2⟩:=r;exact⟨b,o,vs,rfl,h1.trans (lB (k.C b) o),gq k.C _ _ h2⟩
 | .fn f c,x,u,r=>by
   simp only[bW]at r⊢;obtain⟨cs,rfl,r⟩:=r;exact⟨cs,rfl,iY k c _ (by simpa only[V.und] using u) r⟩
 | .fm f c,x,u,r=>by
   simp only[bW]at r⊢;obtain⟨cs,rfl,r⟩:=r;exact⟨cs,rfl,iY k c _ (by simpa only[V.und] using u) r⟩
 | .nul,x,_,r=>by simpa only[bW] using r
 | .nof,x,_,r=>by simpa only[bW] using r
 | .ifc _,x,_,r=>by simpa only[bW] using r
 | .raw _,x,_,r=>by simpa only[bW] using r
 | .nmp,x,_,r=>by simpa only[bW] using r
 | .nile,x,_,r=>by simpa only[bW] using r
 | .undef,x,_,r=>by simp only[bW]
theorem lr (k:sD n g H g' H'):∀ (l:List V) (vs:List Value),br n l=true->cP g H l vs->cP g' H' l vs
 |[],_,_,r=>r
 |v::l,vs,u,r=>by
  simp only[cP]at r⊢;simp only[br,ab]at u;obtain⟨y,ys,rfl,h1,h2,h3⟩:=r;exact⟨y,ys,rfl,h1,fk k v y u.1 h2,lr k l ys u.2 h3⟩
theorem iY (k:sD n g H g' H'):∀ (l:List V) (vs:List Value),br n l=true->bN g H l vs->bN g' H' l vs
 |[],_,_,r=>r
 |v::l,vs,u,r=>by
  simp only[bN]at r⊢;simp only[br,ab]at u;obtain⟨y,ys,rfl,h2,h3⟩:=r;exact⟨y,ys,rfl,fk k v y u.1 h2,iY k l ys u.2 h3⟩
end
end
inductive dF where
 |code (f:kK)
 |prim (F:List V->Hp->Option (V×Hp))
structure Pg extends Cx where
 my:Nat->Option dF
abbrev Lp:=List Nat->aU->St->Option (Ex×St)
def sq (r:Option (Ex×St)) (k:St->Option (Ex×St)):Option (Ex×St):=
 match r with
 |some (.dN,s)=>k s
 |some (.exit i,s)=>some (.exit i,s)
 |some (.ret,s)=>some (.ret,s)
 |none=>none
structure FR (cx:Cx) (orc:iH) (m:Nat) (ops:List aL) (s:St) (d:Nat) (od:aL) (τ:Nat->St) (val:Nat->V):Prop where
 lt:d < m
 le:m<=ops.length
 odx:ops[d]? =some od
 zero:τ 0=s
 step:∀ i o,i < m->ops[i]? =some o->aW cx orc o (τ i)=some (τ (i+1))/\(τ (i+1)).e=fT o.dst (val i) (τ i).e
 quiet:∀ i o,i < m->ops[i]? =some o->i≠d->(τ (i+1)).h=(τ i).h
 ahead:∀ i o,i < d->ops[i]? =some o->aW cx orc o ⟨(τ i).e,(τ (d+1)).h,s.b⟩=some ⟨(τ (i+1)).e,(τ (d+1)).h,s.b⟩
 behind:∀ i o,d < i->i < m->ops[i]? =some o->(∃ t,od.dst=some t/\t∈o.names)\/aW cx orc o ⟨(τ i).e,s.h,s.b⟩=some ⟨(τ (i+1)).e,s.h,s.b⟩
structure FQ (cx:Cx) (orc:iH) (m:Nat) (ops:List aL) (s:St) (d a:Nat) (ε:Nat->Env) (val:Nat->V) (Hs:Bool->Bool->Hp):Prop where
 ld:d < m
 la:a < m
 ne:d≠a
 le:m<=ops.length
 zero:ε 0=s.e
 h0:Hs false false=s.h
 env:∀ i o,i < m->ops[i]? =some o->ε (i+1)=fT o.dst (val i) (ε i)
 run:∀ i o x y,i < m->ops[i]? =some o->(i=d->x=false)->(i=a->y=false)->aW cx orc o ⟨ε i,Hs x y,s.b⟩=some ⟨ε (i+1),Hs (x||decide (i=d)) (y||decide (i=a)),s.b⟩
def oZ:ij->Bool
 | .mv _| .pick .. | .build .. | .ld .. | .bin .. | .un .. | .conv .. | .fld .. | .fadr .. | .ext .. | .len .. | .mkfn .. | .mkfm .. | .eqa .. | .eqb .. | .convs .. | .isnil .. | .bslice .. | .idx .. | .iadra .. | .iadr .. | .slcs .. | .slc .. | .mget .. | .mm .. | .nilck .. =>true
 |_=>false
theorem En {cx:Cx} {orc:iH} {b:Nat} {e:Env} {H:Hp} {o:ij} {v:V} {H':Hp} (hp:oZ o=true) (h:bn cx orc b e H o=some (v,H')):H'=H:=by
 cases o<;>first|(cases hp;done)|skip
 case len str x=>
  cases str<;>simp only[bn]at h
  ·cases hl:rT (di cx e x)with
   |none=>rw[hl]at h;cases h
   |some n=>rw[hl]at h;cases h;rfl
  ·split at h
   ·cases h;rfl
   ·rename_i hh;cases hh
   ·cases h
 all_goals
  simp only[bn]at h
  repeat' split at h
  all_goals first
    |(cases h;done)
    |(simp only[aa,aN]at h;exact h.2.symm)
    |(simp only[aj,aN]at h;obtain⟨_,_,_,h⟩:=h;exact h.symm)
def Jg (a:Nat) (ops:List aL):Bool:=((ops.take a).all fun o=>oZ o.op) && match ops.drop a with
  |⟨some k1,.zbox _,none⟩::⟨some k2,.zbox _,none⟩::⟨none,.st _ (.t p) (.t v),none⟩::_=>p==k1 && k1 !=k2 && v !=k1 && v !=k2
  |_=>false
def xS (cx:Cx) (orc:iH) (m:Nat) (ops:List aL) (s:St):Prop:=(∃ d od τ val,FR cx orc m ops s d od τ val)\/(∃ d a ε val Hs,FQ cx orc m ops s d a ε val Hs)\/∃ a,m=a+3/\Jg a ops=true/\∃ r,eC cx orc (a+2) ops s=some r
open Classical in
noncomputable def l8 (cx:Cx) (orc:iH) (m:Nat) (ops:List aL) (s:St):Option St:=
 if(∃ r,eC cx orc m ops s=some r)\/xS cx orc m ops s then bQ cx orc ops s else none
theorem pv {cx:Cx} {orc:iH}:∀ {m:Nat} {ops:List aL} {s r:St},eC cx orc m ops s=some r->bQ cx orc ops s=some r
 |0,[],_,_,h=>h
 |_+1,[],_,_,h=>h
 |0,_::_,_,_,h=>h
 |m+1,o::r,s,q,h=>by
  simp only[eC]at h;simp only[bQ];cases hx:aW cx orc o s with
  |none=>rw[hx]at h;cases h
  |some s1=>
   rw[hx]at h;simp only[aP]at h⊢;split at h
   ·exact pv h
   ·cases h
theorem Se {cx:Cx} {orc:iH} {m:Nat} {ops:List aL} {s r:St} (h:eC cx orc m ops s=some r):l8 cx orc m ops s=some r:=by
 unfold l8;rw[ay (.inl ⟨r,h⟩)];exact pv h
theorem gA {cx:Cx} {orc:iH} {m:Nat} {ops:List aL} {s r:St}:l8 cx orc m ops s=some r↔bQ cx orc ops s=some r/\((∃ r,eC cx orc m ops s=some r)\/xS cx orc m ops s):=by
 unfold l8;constructor
 ·intro h;split at h
  ·rename_i c;exact⟨h,c⟩
  ·cases h
 ·rintro⟨h,c⟩;rw[ay c];exact h
noncomputable def fg (cx:Cx) (orc:iH) (lp:Lp):aU->St->Option (Ex×St)
 | .skip,s=>some (.dN,s)
 | .reg ops,s=>(bQ cx orc ops s).map fun s=>(.dN,s)
 | .draw m ops,s=>(l8 cx orc m ops s).map fun s=>(.dN,s)
 | .seq a b,s=>sq (fg cx orc lp a s) fun s'=>fg cx orc lp b s'
 | .cond c a b,s=>match di cx s.e c with
   | .d (.bool t)=>if t then fg cx orc lp a s else fg cx orc lp b s
   |_=>none
 | .block id b,s=>match fg cx orc lp b s with
   |some (.exit i,s')=>if i=id then some (.dN,s') else some (.exit i,s')
   |r=>r
 | .scope b,s=>fg cx orc lp b s
 | .loop ks b,s=>match fg cx orc lp b ⟨dU ks s.e,s.h,s.h.length⟩with
   |some (.dN,s')=>lp ks b ⟨cut s.h.length (dU ks s'.e),s'.h.take s.h.length,s.b⟩
   |some (x,s')=>some (x,⟨s'.e,s'.h,s.b⟩)
   |none=>none
 | .exit i,s=>some (.exit i,s)
 | .ret,s=>some (.ret,s)
 | .newrow sz t,s=>match bP s.e t with
   | .nils=>if 0 < sz then some (.dN,⟨(t,.row s.h.length 0)::s.e,s.h++[.row sz []],s.b⟩) else none
   |_=>none
 | .bindrow sz t off,s=>match bP s.e t with
   | .ptr id o=>match s.h[id]? with
     |some (.box c)=>match c[o+off]? with
      |some .nils=>if s.b<=id/\0 < sz then some (.dN,⟨s.e,s.h.set id (.box (c.set (o+off) (.row s.h.length 0)))++[.row sz []],s.b⟩) else none
      |_=>none
     |_=>none
   |_=>none
 | .mkrow sz,s=>if 0 < sz then some (.dN,⟨s.e,s.h++[.row sz []],s.b⟩) else none
 | .bindto t off k,s=>match bP s.e t with
   | .ptr id o=>match s.h[id]? with
     |some (.box c)=>match c[o+off]?,s.h[id - k]? with
      |some .nils,some (.row _ [])=>if 0 < k/\k<=id/\s.b<=id - k then some (.dN,⟨s.e,s.h.set id (.box (c.set (o+off) (.row (id - k) 0))),s.b⟩) else none
      |_,_=>none
     |_=>none
   |_=>none
 | .freeze t,s=>match bP s.e t with
   | .arr id _ _=>match s.h[id]? with
     |some (.box c)=>match kC c with
      |some ds=>some (.dN,⟨s.e,s.h.set id (.frz ds),s.b⟩)
      |none=>none
     |_=>none
   | .row id len=>match s.h[id]? with
     |some (.row _ l)=>if l.length=len then some (.dN,⟨(t,.d (.sl l))::s.e,s.h,s.b⟩) else none
     |_=>none
   |_=>none
def Aw (e:Env) (h:Hp):sK->Option V
 | .tmp t=>some (bP e t)
 | .cell t n=>o8 h n (bP e t)
def jC (e:Env) (h:Hp):List sK->Option (List V)
 |[]=>some []
 |r::rs=>match Aw e h r,jC e h rs with|some v,some vs=>some (v::vs)|_,_=>none
def oneOf:List V->V
 |[v]=>v
 |vs=> .tup vs
def cJ (args:List V):Env:=(List.range args.length).map fun i=>(i,args.getD i .undef)
def leave (vf:kK) (h0:Nat) (s:St):Option (V×Hp):=
 match jC s.e s.h vf.res with
 |none=>none
 |some vs=>
  if vf.keep then some (oneOf vs,s.h)
  else let ds:=vs.map (toArg s.h);if br h0 ds then some (oneOf ds,s.h.take h0) else none
def bare (t:Bool) (h:Hp) (k:Hp->Option (V×Hp)):Option (V×Hp):=
 match t with
 |true=>(k []).map fun r=>(r.1,h)
 |false=>k h
noncomputable def qB (pg:Pg) (orc:iH) (lp:Lp) (f:Nat) (args:List V) (h:Hp):Option (V×Hp):=
 match pg.my f with
 |none=>none
 |some (.prim F)=>F args h
 |some (.code vf)=>if args.length=vf.np then
     bare (br 0 args && !vf.keep) h fun h=>match fg pg.toCx orc lp vf.body ⟨cJ args,h,h.length⟩with
     |some (.dN,s)|some (.ret,s)=>leave vf h.length s
     |_=>none
   else none
noncomputable def a3a (pg:Pg):Nat->iH×Lp
 |0=>(fun _ _ _=>none,fun _ _ _=>none)
 |n+1=>(qB pg (a3a pg n).1 (a3a pg n).2,fun ks b s=>fg pg.toCx (a3a pg n).1 (a3a pg n).2 (.loop ks b) s)
noncomputable def ic (pg:Pg) (n:Nat):iH:=(a3a pg n).1
noncomputable def nP (pg:Pg) (n:Nat):Lp:=(a3a pg n).2
theorem mV (pg:Pg) (f:Nat) (a:List V) (h:Hp):ic pg 0 f a h=none:=rfl
theorem j5 (pg:Pg) (n f:Nat) (a:List V) (h:Hp):ic pg (n+1) f a h=qB pg (ic pg n) (nP pg n) f a h:=rfl
theorem oO (pg:Pg) (k:List Nat) (b:aU) (s:St):nP pg 0 k b s=none:=rfl
theorem mP (pg:Pg) (n:Nat) (k:List Nat) (b:aU) (s:St):nP pg (n+1) k b s=fg pg.toCx (ic pg n) (nP pg n) (.loop k b) s:=rfl
def Tj (o o':iH):Prop:=∀ f a h r,o f a h=some r->o' f a h=some r
def b1c (l l':Lp):Prop:=∀ k b s r,l k b s=some r->l' k b s=some r
theorem DC {cx:Cx} {o o':iH} (ho:Tj o o') {b:Nat} {e:Env} {H:Hp} {op:ij} {r:V×Hp} (h:bn cx o b e H op=some r):bn cx o' b e H op=some r:=by
 cases op with
 |call f args=>exact ho _ _ _ _ h
 |callv f args=>
  simp only[bn]at h⊢;split at h
  ·exact ho _ _ _ _ h
  ·exact ho _ _ _ _ h
  ·cases h
 |_=>exact h
theorem Rs {d:Option Nat} {e:Env} {b:Nat} {x y:Option (V×Hp)} {r:St} (h:∀ q,x=some q->y=some q) (hr:lay d e b x=some r):lay d e b y=some r:=by
 cases x with
 |none=>cases hr
 |some q=>rw[h q rfl];exact hr
theorem RN {v:V} {b:Bool} {d:Option Nat} {s:St} {x y:Option (V×Hp)} {r:St} (h:∀ q,x=some q->y=some q) (hr:grd v b d s x=some r):grd v b d s y=some r:=by
 unfold grd at hr⊢;split at hr
 ·split at hr
  ·rename_i hb;exact(ay hb).trans (Rs h hr)
  ·rename_i hb;exact(aA hb).trans hr
 ·exact hr
 ·cases hr
theorem dt {cx:Cx} {o o':iH} (ho:Tj o o') {x:aL} {s r:St} (h:aW cx o x s=some r):aW cx o' x s=some r:=by
 unfold aW at h⊢;split at h
 ·exact Rs (fun q hq=>DC ho hq) h
 ·exact RN (fun q hq=>DC ho hq) h
theorem lk {cx:Cx} {o o':iH} (ho:Tj o o'):∀ {ops:List aL} {s r:St},bQ cx o ops s=some r->bQ cx o' ops s=some r
 |[],_,_,h=>h
 |x::xs,s,r,h=>by
  simp only[bQ]at h⊢;cases hx:aW cx o x s with
  |none=>rw[hx]at h;cases h
  |some q=>rw[hx]at h;rw[dt ho hx];exact lk ho h
theorem nW {cx:Cx} {o o':iH} (ho:Tj o o'):∀ {m:Nat} {ops:List aL} {s r:St},eC cx o m ops s=some r->eC cx o' m ops s=some r
 |0,[],_,_,h=>h
 |_+1,[],_,_,h=>h
 |0,x::xs,s,r,h=>lk ho h
 |m+1,x::xs,s,r,h=>by
  simp only[eC]at h⊢;cases hx:aW cx o x s with
  |none=>rw[hx]at h;cases h
  |some q=>
   rw[hx]at h;rw[dt ho hx];simp only[aP]at h⊢;split at h
   ·rename_i hg;rw[ay hg];exact nW ho h
   ·cases h
theorem Bt {cx:Cx} {o o':iH} (ho:Tj o o') {m:Nat} {ops:List aL} {s:St} (h:xS cx o m ops s):xS cx o' m ops s:=by
 rcases h with⟨d,od,τ,val,D⟩|⟨d,a,ε,val,Hs,D⟩|⟨a,h1,h2,r,h3⟩
 rotate_left
 rotate_left
 ·exact .inr (.inr ⟨a,h1,h2,r,nW ho h3⟩)
 rotate_left
 ·exact .inr (.inl ⟨d,a,ε,val,Hs,D.ld,D.la,D.ne,D.le,D.zero,D.h0,D.env,fun i q x y hi hq h1 h2=>dt ho (D.run i q x y hi hq h1 h2)⟩)
 exact .inl ⟨d,od,τ,val,D.lt,D.le,D.odx,D.zero,fun i q hi hq=>⟨dt ho (D.step i q hi hq).1,(D.step i q hi hq).2⟩,D.quiet,fun i q hi hq=>dt ho (D.ahead i q hi hq),fun i q h1 h2 hq=>(D.behind i q h1 h2 hq).imp id (dt ho)⟩
theorem Kb {cx:Cx} {o o':iH} (ho:Tj o o') {m:Nat} {ops:List aL} {s r:St} (h:l8 cx o m ops s=some r):l8 cx o' m ops s=some r:=by
 obtain⟨h1,h2⟩:=gA.1 h;refine gA.2 ⟨lk ho h1,?_⟩;rcases h2 with⟨q,hq⟩|hD
 ·exact .inl ⟨q,nW ho hq⟩
 ·exact .inr (Bt ho hD)
theorem l9 {cx:Cx} {o o':iH} (ho:Tj o o') {l l':Lp} (hl:b1c l l'):∀ {c:aU} {s:St} {r:Ex×St},fg cx o l c s=some r->fg cx o' l' c s=some r:=by
 intro c;induction c with
 |skip=>intro s r h;exact h
 |reg ops=>
  intro s r h;simp only[fg]at h⊢;cases hx:bQ cx o ops s with
  |none=>rw[hx]at h;cases h
  |some q=>rw[hx]at h;rw[lk ho hx];exact h
 |draw m ops=>
  intro s r h;simp only[fg]at h⊢;cases hx:l8 cx o m ops s with
  |none=>rw[hx]at h;cases h
  |some q=>rw[hx]at h;rw[Kb ho hx];exact h
 |seq a b iha ihb=>
  intro s r h;simp only[fg]at h⊢;cases hx:fg cx o l a s with
  |none=>rw[hx]at h;cases h
  |some q=>
   obtain⟨x,s'⟩:=q;rw[hx]at h;rw[iha hx];cases x<;>first|exact ihb h|exact h
 |cond c a b iha ihb=>
  intro s r h;simp only[fg]at h⊢;split at h
  ·split at h
   ·rename_i hb;rw[ay hb];exact iha h
   ·rename_i hb;rw[aA hb];exact ihb h
  ·cases h
 |block id b ih=>
  intro s r h;simp only[fg]at h⊢;cases hx:fg cx o l b s with
  |none=>rw[hx]at h;cases h
  |some q=>rw[hx]at h;rw[ih hx];exact h
 |scope b ih=>intro s r h;simp only[fg]at h⊢;exact ih h
 |loop k b ih=>
  intro s r h;simp only[fg]at h⊢;cases hx:fg cx o l b ⟨dU k s.e,s.h,s.h.length⟩with
  |none=>rw[hx]at h;cases h
  |some q=>
   obtain⟨x,s'⟩:=q;rw[hx]at h;rw[ih hx];cases x<;>simp only at h⊢ <;>first|exact hl _ _ _ _ h|exact h
 |exit i=>intro s r h;exact h
 |ret=>intro s r h;exact h
 |newrow a b=>intro s r h;exact h
 |bindrow a b c=>intro s r h;exact h
 |mkrow a=>intro s r h;exact h
 |bindto a b c=>intro s r h;exact h
 |freeze a=>intro s r h;exact h
theorem FH {t:Bool} {h:Hp} {k k':Hp->Option (V×Hp)} {r:V×Hp} (hk:∀ h r,k h=some r->k' h=some r) (hr:bare t h k=some r):bare t h k'=some r:=by
 cases t with
 |true=>
  simp only[bare]at hr⊢;obtain⟨q,hq,rfl⟩:=aj.1 hr;rw[hk _ _ hq];rfl
 |false=>exact hk _ _ hr
theorem FJ (pg:Pg):∀ n,Tj (ic pg n) (ic pg (n+1))/\b1c (nP pg n) (nP pg (n+1))
 |0=>⟨fun _ _ _ _ h=>(nomatch ((mV pg _ _ _).symm.trans h)),fun _ _ _ _ h=>(nomatch ((oO pg _ _ _).symm.trans h))⟩
 |n+1=>by
  obtain⟨h1,h2⟩:=FJ pg n;refine⟨fun f a h r hr=>?_,fun k b s r hr=>?_⟩
  ·rw[j5,qB]at hr⊢;split at hr
   ·cases hr
   ·exact hr
   ·rename_i vf ht;split at hr
    ·rename_i hl;rw[ay hl];refine FH (fun h r hr=>?_) hr;cases hx:fg pg.toCx (ic pg n) (nP pg n) vf.body ⟨cJ a,h,h.length⟩with
     |none=>rw[hx]at hr;cases hr
     |some q=>rw[hx]at hr;rw[l9 h1 h2 hx];exact hr
    ·cases hr
  ·rw[mP]at hr⊢;exact l9 h1 h2 hr
theorem jF (pg:Pg) {n m:Nat} (h:n<=m):Tj (ic pg n) (ic pg m):=by
 induction m with
 |zero=>obtain rfl:n=0:=om
        exact fun _ _ _ _ h=>h
 |succ m ih=>
  by_cases hm:n=m+1
  ·subst hm;exact fun _ _ _ _ h=>h
  ·exact fun f a hh r hr=>(FJ pg m).1 _ _ _ _ (ih om _ _ _ _ hr)
theorem Dm (pg:Pg) {n m:Nat} (h:n<=m):b1c (nP pg n) (nP pg m):=by
 induction m with
 |zero=>obtain rfl:n=0:=om
        exact fun _ _ _ _ h=>h
 |succ m ih=>
  by_cases hm:n=m+1
  ·subst hm;exact fun _ _ _ _ h=>h
  ·exact fun f a hh r hr=>(FJ pg m).2 _ _ _ _ (ih om _ _ _ _ hr)
open Classical in
@[irreducible] noncomputable def cv (pg:Pg):iH:=fun f a h=>if x:∃ r,∃ n,ic pg n f a h=some r then some x.choose else none
open Classical in
@[irreducible] noncomputable def OK (pg:Pg):Lp:=fun k b s=>if x:∃ r,∃ n,nP pg n k b s=some r then some x.choose else none
theorem jG {pg:Pg} {f:Nat} {a:List V} {h:Hp} {r:V×Hp}:cv pg f a h=some r↔∃ n,ic pg n f a h=some r:=by
 unfold cv;constructor
 ·intro hx;split at hx
  ·rename_i x;cases hx;exact x.choose_spec
  ·cases hx
 ·rintro⟨n,hn⟩;have x:∃ r,∃ n,ic pg n f a h=some r:=⟨r,n,hn⟩;rw[dif_pos x];obtain⟨m,hm⟩:=x.choose_spec;have e1:=jF pg (cN n m) _ _ _ _ hn;have e2:=jF pg (cn n m) _ _ _ _ hm;rw[e1]at e2;exact e2.symm
theorem uT {pg:Pg} {k:List Nat} {b:aU} {s:St} {r:Ex×St}:OK pg k b s=some r↔∃ n,nP pg n k b s=some r:=by
 unfold OK;constructor
 ·intro hx;split at hx
  ·rename_i x;cases hx;exact x.choose_spec
  ·cases hx
 ·rintro⟨n,hn⟩;have x:∃ r,∃ n,nP pg n k b s=some r:=⟨r,n,hn⟩;rw[dif_pos x];obtain⟨m,hm⟩:=x.choose_spec;have e1:=Dm pg (cN n m) _ _ _ _ hn;have e2:=Dm pg (cn n m) _ _ _ _ hm;rw[e1]at e2;exact e2.symm
theorem J8 (pg:Pg) (n:Nat):Tj (ic pg n) (cv pg):=fun _ _ _ _ h=>jG.2 ⟨n,h⟩
theorem Rb (pg:Pg) (n:Nat):b1c (nP pg n) (OK pg):=fun _ _ _ _ h=>uT.2 ⟨n,h⟩
section fin
variable {pg:Pg}
theorem Sa {b:Nat} {e:Env} {H:Hp} {op:ij} {r:V×Hp} (h:bn pg.toCx (cv pg) b e H op=some r):∃ n,bn pg.toCx (ic pg n) b e H op=some r:=by
 cases op with
 |call f args=>exact jG.1 h
 |callv f args=>
  simp only[bn]at h⊢;split at h
  ·exact jG.1 h
  ·exact jG.1 h
  ·cases h
 |_=>exact⟨0,h⟩
theorem mW {x:aL} {s r:St} (h:aW pg.toCx (cv pg) x s=some r):∃ n,aW pg.toCx (ic pg n) x s=some r:=by
 unfold aW at h⊢;cases hx:bn pg.toCx (cv pg) s.b s.e s.h x.op with
 |none=>
  rw[hx]at h;refine⟨0,?_⟩;split at h
  ·cases h
  ·exact RN (fun q hq=>by cases hq) h
 |some q=>
  obtain⟨n,hn⟩:=Sa hx;rw[hx]at h;exact⟨n,by rw[hn];exact h⟩
theorem uS:∀ {ops:List aL} {s r:St},bQ pg.toCx (cv pg) ops s=some r->∃ n,bQ pg.toCx (ic pg n) ops s=some r
 |[],_,_,h=>⟨0,h⟩
 |x::xs,s,r,h=>by
  simp only[bQ]at h;cases hx:aW pg.toCx (cv pg) x s with
  |none=>rw[hx]at h;cases h
  |some q=>
   rw[hx]at h;obtain⟨n,hn⟩:=mW hx;obtain⟨m,hm⟩:=uS (ops:=xs) h;exact⟨max n m,by simp only[bQ];rw[dt (jF pg (cN n m)) hn];exact lk (jF pg (cn n m)) hm⟩
theorem vZ:∀ {k:Nat} {ops:List aL} {s r:St},eC pg.toCx (cv pg) k ops s=some r->∃ n,eC pg.toCx (ic pg n) k ops s=some r
 |0,[],_,_,h=>⟨0,h⟩
 |_+1,[],_,_,h=>⟨0,h⟩
 |0,x::xs,s,r,h=>uS h
 |k+1,x::xs,s,r,h=>by
  simp only[eC]at h;cases hx:aW pg.toCx (cv pg) x s with
  |none=>rw[hx]at h;cases h
  |some q=>
   rw[hx]at h;obtain⟨n,hn⟩:=mW hx;simp only[aP]at h;split at h
   ·rename_i hg;obtain⟨m,hm⟩:=vZ (ops:=xs) h;refine⟨max n m,?_⟩;simp only[eC];rw[dt (jF pg (cN n m)) hn];simp only[aP,ay hg];exact nW (jF pg (cn n m)) hm
   ·cases h
theorem Fa {p:Nat->Nat->Prop} (hp:∀ i n n',n<=n'->p i n->p i n'):∀ m,(∀ i,i < m->∃ n,p i n)->∃ n,∀ i,i < m->p i n
 |0,_=>⟨0,fun i h=>absurd h (gC i)⟩
 |m+1,h=>by
  obtain⟨n,hn⟩:=Fa hp m fun i hi=>h i om;obtain⟨k,hk⟩:=h m om;refine⟨max n k,fun i hi=>?_⟩;rcases Nat.lt_succ_iff_lt_or_eq.1 hi with q|q
  ·exact hp i n _ (cN n k) (hn i q)
  ·subst q;exact hp i k _ (cn n k) hk
theorem Oc {m:Nat} {ops:List aL} {s:St} (h:xS pg.toCx (cv pg) m ops s):∃ n,xS pg.toCx (ic pg n) m ops s:=by
 rcases h with⟨d,od,τ,val,D⟩|⟨d,a,ε,val,Hs,D⟩|⟨a,h1,h2,r,h3⟩
 rotate_left
 rotate_left
 ·obtain⟨n,hn⟩:=vZ h3;exact⟨n,.inr (.inr ⟨a,h1,h2,r,hn⟩)⟩
 rotate_left
 ·have key:∃ n,∀ i,i < m->∀ q,ops[i]? =some q->∀ x y,(i=d->x=false)->(i=a->y=false)->aW pg.toCx (ic pg n) q ⟨ε i,Hs x y,s.b⟩=some ⟨ε (i+1),Hs (x||decide (i=d)) (y||decide (i=a)),s.b⟩:=by
   refine Fa (p:=fun i n=> ∀ q,ops[i]? =some q->∀ x y,(i=d->x=false)->(i=a->y=false)->aW pg.toCx (ic pg n) q ⟨ε i,Hs x y,s.b⟩=some ⟨ε (i+1),Hs (x||decide (i=d)) (y||decide (i=a)),s.b⟩) (fun i n n' hn h q hq x y h1 h2=>dt (jF pg hn) (h q hq x y h1 h2)) m (fun i hi=>?_);have hil:i < ops.length:=ch hi D.le;have hq:=ae hil;have one:∀ x y,∃ n,(i=d->x=false)->(i=a->y=false)->aW pg.toCx (ic pg n) ops[i] ⟨ε i,Hs x y,s.b⟩=some ⟨ε (i+1),Hs (x||decide (i=d)) (y||decide (i=a)),s.b⟩:=fun x y=>by
     by_cases c1:i=d->x=false
     ·by_cases c2:i=a->y=false
      ·obtain⟨n,hn⟩:=mW (D.run i _ x y hi hq c1 c2);exact⟨n,fun _ _=>hn⟩
      ·exact⟨0,fun _ h=>absurd h c2⟩
     ·exact⟨0,fun h=>absurd h c1⟩
   obtain⟨n1,g1⟩:=one false false;obtain⟨n2,g2⟩:=one false true;obtain⟨n3,g3⟩:=one true false;obtain⟨n4,g4⟩:=one true true;refine⟨n1+n2+n3+n4,fun q hq2 x y h1 h2=>?_⟩;rw[hq]at hq2;cases hq2;cases x<;>cases y
   ·exact dt (jF pg om) (g1 h1 h2)
   ·exact dt (jF pg om) (g2 h1 h2)
   ·exact dt (jF pg om) (g3 h1 h2)
   ·exact dt (jF pg om) (g4 h1 h2)
  obtain⟨n,hn⟩:=key;exact⟨n,.inr (.inl ⟨d,a,ε,val,Hs,D.ld,D.la,D.ne,D.le,D.zero,D.h0,D.env,fun i q x y hi hq h1 h2=>hn i hi q hq x y h1 h2⟩)⟩
 have key:∃ n,∀ i,i < m->∀ q,ops[i]? =some q->aW pg.toCx (ic pg n) q (τ i)=some (τ (i+1))/\(i < d->aW pg.toCx (ic pg n) q ⟨(τ i).e,(τ (d+1)).h,s.b⟩=some ⟨(τ (i+1)).e,(τ (d+1)).h,s.b⟩)/\(d < i->(∃ t,od.dst=some t/\t∈q.names)\/aW pg.toCx (ic pg n) q ⟨(τ i).e,s.h,s.b⟩=some ⟨(τ (i+1)).e,s.h,s.b⟩):=by
  refine Fa (p:=fun i n=> ∀ q,ops[i]? =some q->aW pg.toCx (ic pg n) q (τ i)=some (τ (i+1))/\(i < d->aW pg.toCx (ic pg n) q ⟨(τ i).e,(τ (d+1)).h,s.b⟩=some ⟨(τ (i+1)).e,(τ (d+1)).h,s.b⟩)/\(d < i->(∃ t,od.dst=some t/\t∈q.names)\/aW pg.toCx (ic pg n) q ⟨(τ i).e,s.h,s.b⟩=some ⟨(τ (i+1)).e,s.h,s.b⟩)) (fun i n n' hn h q hq=>?_) m (fun i hi=>?_)
  ·obtain⟨a,b,c⟩:=h q hq;exact⟨dt (jF pg hn) a,fun x=>dt (jF pg hn) (b x),fun x=>(c x).imp id (dt (jF pg hn))⟩
  ·have hil:i < ops.length:=ch hi D.le;have hq:=ae hil;obtain⟨n1,h1⟩:=mW (D.step i _ hi hq).1;obtain⟨n2,h2⟩:∃ n,i < d->aW pg.toCx (ic pg n) ops[i] ⟨(τ i).e,(τ (d+1)).h,s.b⟩=some ⟨(τ (i+1)).e,(τ (d+1)).h,s.b⟩:=by
    by_cases c:i < d
    ·obtain⟨n,hn⟩:=mW (D.ahead i _ c hq);exact⟨n,fun _=>hn⟩
    ·exact⟨0,fun x=>absurd x c⟩
   obtain⟨n3,h3⟩:∃ n,d < i->(∃ t,od.dst=some t/\t∈ops[i].names)\/aW pg.toCx (ic pg n) ops[i] ⟨(τ i).e,s.h,s.b⟩=some ⟨(τ (i+1)).e,s.h,s.b⟩:=by
    by_cases c:d < i
    ·rcases D.behind i _ c hi hq with x|x
     ·exact⟨0,fun _=> .inl x⟩
     ·obtain⟨n,hn⟩:=mW x;exact⟨n,fun _=> .inr hn⟩
    ·exact⟨0,fun x=>absurd x c⟩
   refine⟨max n1 (max n2 n3),fun q hq2=>?_⟩;rw[hq]at hq2;cases hq2;have l1:n1<=max n1 (max n2 n3):=cN ..;have l2:n2<=max n1 (max n2 n3):=dD (cN n2 n3) (cn ..);have l3:n3<=max n1 (max n2 n3):=dD (cn n2 n3) (cn ..);exact⟨dt (jF pg l1) h1,fun x=>dt (jF pg l2) (h2 x),fun x=>(h3 x).imp id (dt (jF pg l3))⟩
 obtain⟨n,hn⟩:=key;exact⟨n,.inl ⟨d,od,τ,val,D.lt,D.le,D.odx,D.zero,fun i q hi hq=>⟨(hn i hi q hq).1,(D.step i q hi hq).2⟩,D.quiet,fun i q hi hq=>(hn i (Nat.lt_trans hi D.lt) q hq).2.1 hi,fun i q h1 h2 hq=>(hn i h2 q hq).2.2 h1⟩⟩
theorem N5 {m:Nat} {ops:List aL} {s r:St} (h:l8 pg.toCx (cv pg) m ops s=some r):∃ n,l8 pg.toCx (ic pg n) m ops s=some r:=by
 obtain⟨h1,h2⟩:=gA.1 h;obtain⟨n1,g1⟩:=uS h1;rcases h2 with⟨q,hq⟩|hD
 ·obtain⟨n2,g2⟩:=vZ hq;exact⟨max n1 n2,gA.2 ⟨lk (jF pg (cN ..)) g1,.inl ⟨q,nW (jF pg (cn ..)) g2⟩⟩⟩
 ·obtain⟨n2,g2⟩:=Oc hD;exact⟨max n1 n2,gA.2 ⟨lk (jF pg (cN ..)) g1,.inr (Bt (jF pg (cn ..)) g2)⟩⟩
theorem uU:∀ {c:aU} {s:St} {r:Ex×St},fg pg.toCx (cv pg) (OK pg) c s=some r->∃ n,fg pg.toCx (ic pg n) (nP pg n) c s=some r:=by
 intro c;induction c with
 |skip=>intro s r h;exact⟨0,h⟩
 |reg ops=>
  intro s r h;simp only[fg]at h⊢;cases hx:bQ pg.toCx (cv pg) ops s with
  |none=>rw[hx]at h;cases h
  |some q=>rw[hx]at h;obtain⟨n,hn⟩:=uS hx;exact⟨n,by rw[hn];exact h⟩
 |draw m ops=>
  intro s r h;simp only[fg]at h⊢;cases hx:l8 pg.toCx (cv pg) m ops s with
  |none=>rw[hx]at h;cases h
  |some q=>rw[hx]at h;obtain⟨n,hn⟩:=N5 hx;exact⟨n,by rw[hn];exact h⟩
 |seq a b iha ihb=>
  intro s r h;simp only[fg]at h⊢;cases hx:fg pg.toCx (cv pg) (OK pg) a s with
  |none=>rw[hx]at h;cases h
  |some q=>
   obtain⟨x,s'⟩:=q;rw[hx]at h;obtain⟨n,hn⟩:=iha hx;cases x with
   |dN=>
    obtain⟨m,hm⟩:=ihb h;refine⟨max n m,?_⟩;rw[l9 (jF pg (cN n m)) (Dm pg (cN n m)) hn];exact l9 (jF pg (cn n m)) (Dm pg (cn n m)) hm
   |exit i=>exact⟨n,by rw[hn];exact h⟩
   |ret=>exact⟨n,by rw[hn];exact h⟩
 |cond c a b iha ihb=>
  intro s r h;simp only[fg]at h⊢;split at h
  ·split at h
   ·rename_i hb;simp only[ay hb];exact iha h
   ·rename_i hb;simp only[aA hb];exact ihb h
  ·cases h
 |block id b ih=>
  intro s r h;simp only[fg]at h⊢;cases hx:fg pg.toCx (cv pg) (OK pg) b s with
  |none=>rw[hx]at h;cases h
  |some q=>rw[hx]at h;obtain⟨n,hn⟩:=ih hx;exact⟨n,by rw[hn];exact h⟩
 |scope b ih=>intro s r h;simp only[fg]at h⊢;exact ih h
 |loop k b ih=>
  intro s r h;simp only[fg]at h⊢;cases hx:fg pg.toCx (cv pg) (OK pg) b ⟨dU k s.e,s.h,s.h.length⟩with
  |none=>rw[hx]at h;cases h
  |some q=>
   obtain⟨x,s'⟩:=q;rw[hx]at h;obtain⟨n,hn⟩:=ih hx;cases x with
   |dN=>
    obtain⟨m,hm⟩:=uT.1 h;refine⟨max n m,?_⟩;rw[l9 (jF pg (cN n m)) (Dm pg (cN n m)) hn];exact Dm pg (cn n m) _ _ _ _ hm
   |exit i=>exact⟨n,by rw[hn];exact h⟩
   |ret=>exact⟨n,by rw[hn];exact h⟩
 |exit i=>intro s r h;exact⟨0,h⟩
 |ret=>intro s r h;exact⟨0,h⟩
 |newrow a b=>intro s r h;exact⟨0,h⟩
 |bindrow a b c=>intro s r h;exact⟨0,h⟩
 |mkrow a=>intro s r h;exact⟨0,h⟩
 |bindto a b c=>intro s r h;exact⟨0,h⟩
 |freeze a=>intro s r h;exact⟨0,h⟩
end fin
noncomputable def ev (pg:Pg) (c:aU) (s:St):Option (Ex×St):=fg pg.toCx (cv pg) (OK pg) c s
theorem JD {α:Type} {a b:Option α} (h1:∀ r,a=some r->b=some r) (h2:∀ r,b=some r->a=some r):a=b:=by
 cases ha:a with
 |some r=>exact(h1 r ha).symm
 |none=>
  cases hb:b with
  |none=>rfl
  |some r=>rw[h2 r hb]at ha;cases ha
theorem Zw (pg:Pg) (k:List Nat) (b:aU) (s:St):OK pg k b s=ev pg (.loop k b) s:=by
 refine JD (fun r h=>?_) (fun r h=>?_)
 ·obtain⟨n,hn⟩:=uT.1 h;cases n with
  |zero=>rw[oO]at hn;cases hn
  |succ n=>rw[mP]at hn;exact l9 (J8 pg n) (Rb pg n) hn
 ·obtain⟨n,hn⟩:=uU h;exact uT.2 ⟨n+1,by rw[mP];exact hn⟩
theorem jT {pg:Pg} {f:Nat} {F:List V->Hp->Option (V×Hp)} (ht:pg.my f=some (.prim F)) (a:List V) (h:Hp):cv pg f a h=F a h:=by
 refine JD (fun r hr=>?_) (fun r hr=>?_)
 ·obtain⟨n,hn⟩:=jG.1 hr;cases n with
  |zero=>rw[mV]at hn;cases hn
  |succ n=>rw[j5,qB,ht]at hn;exact hn
 ·exact jG.2 ⟨1,by rw[j5,qB,ht];exact hr⟩
noncomputable def Ij (pg:Pg) (vf:kK) (a:List V) (h:Hp):Option (V×Hp):=
 match ev pg vf.body ⟨cJ a,h,h.length⟩with
 |some (.dN,s)|some (.ret,s)=>leave vf h.length s
 |_=>none
theorem HN {pg:Pg} {f:Nat} {vf:kK} (ht:pg.my f=some (.code vf)) (a:List V) (h:Hp):
 cv pg f a h=if a.length=vf.np then bare (br 0 a && !vf.keep) h (Ij pg vf a) else none:=by
 refine JD (fun r hr=>?_) (fun r hr=>?_)
 ·obtain⟨n,hn⟩:=jG.1 hr;cases n with
  |zero=>rw[mV]at hn;cases hn
  |succ n=>
   rw[j5,qB,ht]at hn;simp only at hn;split at hn
   ·rename_i hl;rw[ay hl];refine FH (fun h r hn=>?_) hn;cases hx:fg pg.toCx (ic pg n) (nP pg n) vf.body ⟨cJ a,h,h.length⟩with
    |none=>rw[hx]at hn;cases hn
    |some q=>rw[hx]at hn;rw[Ij,ev,l9 (J8 pg n) (Rb pg n) hx];exact hn
   ·cases hn
 ·split at hr
  ·rename_i hl;have key:∀ h r,Ij pg vf a h=some r->∃ n,(match fg pg.toCx (ic pg n) (nP pg n) vf.body ⟨cJ a,h,h.length⟩with
       |some (.dN,s)|some (.ret,s)=>leave vf h.length s
       |_=>none)=some r:=by
     intro h r hr;rw[Ij]at hr;cases hx:ev pg vf.body ⟨cJ a,h,h.length⟩with
     |none=>rw[hx]at hr;cases hr
     |some q=>
      rw[hx]at hr;obtain⟨n,hn⟩:=uU hx;exact⟨n,by rw[hn];exact hr⟩
   cases ht':(br 0 a && !vf.keep)with
   |true=>
    rw[ht']at hr;simp only[bare]at hr;obtain⟨q,hq,rfl⟩:=aj.1 hr;obtain⟨n,hn⟩:=key _ _ hq;refine jG.2 ⟨n+1,?_⟩;rw[j5,qB,ht];simp only[ay hl,ht',bare];exact aG (Option.map fun r=>(r.1,h)) hn
   |false=>
    rw[ht']at hr;simp only[bare]at hr;obtain⟨n,hn⟩:=key _ _ hr;refine jG.2 ⟨n+1,?_⟩;rw[j5,qB,ht];simp only[ay hl,ht',bare];exact hn
  ·cases hr
def Clean (n:Nat) (H:Hp):Prop:=∀ i c,i < n->H[i]? =some (.box c)->br n c=true
def Iy (C:Nat->List Value) (l:List (D×D)) (es:List MapEntry):Prop:=es.length=l.length/\∀ (i:Nat) p e,l[i]? =some p->es[i]? =some e->du C p.1 e.key/\du C p.2 e.val/\e.born=i
def zn (g:Gh) (H:Hp) (w:World) (b cap:Nat):Ob->Prop
 | .box c=> ∃ cur e,w.heap[b]? =some (.cells cur e (0,0))/\cP g H c cur.toList/\g.C b=[]
 | .frz c=>db g.C c (g.C b)
 | .map l=>(∃ es:Array MapEntry,w.heap[b]? =some (.map es l.length)/\Iy g.C l es.toList)/\g.C b=[]
 | .row sz l=> ∃ cur e,w.heap[b]? =some (.cells cur e (0,0))/\dJ g.C sz l (g.C b)/\0 < sz/\l.length<=cap/\cur.size=cap*sz/\cap<=maxLen
def MH (cx:Cx) (g:Gh) (w:World):Prop:=∀ i o,cx.fx i=some o->w.heap[i]? =some o/\∀ k c,g.J k≠some (i,c)
structure Inv (cx:Cx) (g:Gh) (H:Hp) (w:World):Prop where
 inj:∀ i k b c c',g.J i=some (b,c)->g.J k=some (b,c')->i=k
 dom:∀ i b c,g.J i=some (b,c)->i < H.length/\b < w.heap.size
 ob:∀ i b c o,g.J i=some (b,c)->H[i]? =some o->zn g H w b c o
 imm:∀ b,g.C b≠[]->∃ cur e fz,w.heap[b]? =some (.cells cur e fz)/\g.C b <+:cur.toList
 und:Clean H.length H
 glob:∀ i,∃ vs,vs <+:g.C i/\db g.C (cx.gv i) vs
 fix:MH cx g w
theorem MH.mono {cx:Cx} {g g':Gh} {w w':World} (h:MH cx g w) (hh:∀ b,b < w.heap.size->(∀ k c,g.J k≠some (b,c))->w'.heap[b]? =w.heap[b]? /\∀ k c,g'.J k≠some (b,c)):MH cx g' w':=fun i o hi=>by
  obtain⟨h1,h2⟩:=h i o hi;obtain⟨h3,h4⟩:=hh i (aS.1 h1).1 h2;exact⟨h3.trans h1,h4⟩
structure Ext (nb:Nat) (g:Gh) (H:Hp) (w:World) (g':Gh) (H':Hp) (w':World):Prop where
 os:w'.os=w.os
 tape:w'.tape=w.tape
 output:w'.output=w.output
 size:w.heap.size<=w'.heap.size
 frame:∀ b,b < w.heap.size->(∀ i c,g.J i≠some (b,c))->w'.heap[b]? =w.heap[b]? /\g'.C b=g.C b
 keep:Keep H.length g H g' H'
 jnew:∀ i b c,g'.J i=some (b,c)->b < w.heap.size->∃ k c',g.J k=some (b,c')
 clean:∀ n,n<=nb->Clean n H->Clean n H'
 len:H.length<=H'.length
theorem Ext.refl (nb:Nat) (g:Gh) (H:Hp) (w:World):Ext nb g H w g H w:=
 ⟨rfl,rfl,rfl,ai _,fun _ _ _=>⟨rfl,rfl⟩,Keep.refl _ _ _,fun i _ c h _=>⟨i,c,h⟩,fun _ _ h=>h,ai _⟩
theorem Ext.trans {nb nb':Nat} {g g1 g2:Gh} {H H1 H2:Hp} {w w1 w2:World} (h:Ext nb g H w g1 H1 w1) (k:Ext nb' g1 H1 w1 g2 H2 w2) (hb:nb<=nb'):Ext nb g H w g2 H2 w2:=by
 refine⟨k.os.trans h.os,k.tape.trans h.tape,k.output.trans h.output,dD h.size k.size,fun b hb hj=>?_,h.keep.trans k.keep h.len,fun i b c hi hlt=>?_,fun n hn hc=>k.clean n om (h.clean n hn hc),dD h.len k.len⟩
 ·obtain⟨a1,a2⟩:=h.frame b hb hj;obtain⟨b1,b2⟩:=k.frame b (ch hb h.size) (fun i c hi=>by
    obtain⟨k',c',hk⟩:=h.jnew i b c hi hb;exact hj k' c' hk)
  exact⟨b1.trans a1,b2.trans a2⟩
 ·obtain⟨k1,c1,h1⟩:=k.jnew i b c hi (ch hlt h.size);exact h.jnew k1 b c1 h1 hlt
theorem Ext.le {nb nb':Nat} {g g':Gh} {H H':Hp} {w w':World} (h:Ext nb g H w g' H' w') (hn:nb'<=nb):Ext nb' g H w g' H' w':=
 ⟨h.os,h.tape,h.output,h.size,h.frame,h.keep,h.jnew,fun n hn'=>h.clean n om,h.len⟩
def kj (g:Gh) (H:Hp) (N:Nat) (e:Env) (t:Array Value):Prop:=
 t.size=N/\∀ i,i < N->bW g H (bP e i) (t.getD i undef)/\(bP e i).und H.length=true
mutual
theorem V.jo {n m:Nat} (h:n<=m):∀ v:V,v.und n=true->v.und m=true
 | .d _,_=>rfl
 | .agg l,u=>by simp only[V.und]at u⊢;exact fE h l u
 | .tup l,u=>by simp only[V.und]at u⊢;exact fE h l u
 | .nils,_=>rfl
 | .row id _,u=>by simp only[V.und,an]at u⊢;omega
 | .arr id _ _,u=>by simp only[V.und,an]at u⊢;omega
 | .ptr id _,u=>by simp only[V.und,an]at u⊢;omega
 | .mp id,u=>by simp only[V.und,an]at u⊢;omega
 | .ro _ _,_=>rfl
 | .fn _ l,u=>by simp only[V.und]at u⊢;exact fE h l u
 | .fm _ l,u=>by simp only[V.und]at u⊢;exact fE h l u
 | .nul,_=>rfl
 | .nof,_=>rfl
 | .ifc _,_=>rfl
 | .raw _,_=>rfl
 | .nmp,_=>rfl
 | .nile,_=>rfl
 | .undef,_=>rfl
theorem fE {n m:Nat} (h:n<=m):∀ l:List V,br n l=true->br m l=true
 |[],_=>rfl
 |v::l,u=>by
  simp only[br,ab]at u⊢;exact⟨V.jo h v u.1,fE h l u.2⟩
end
theorem kj.ext {nb:Nat} {g g':Gh} {H H':Hp} {w w':World} {N:Nat} {e:Env} {t:Array Value} (h:kj g H N e t) (x:Ext nb g H w g' H' w'):kj g' H' N e t:=
 ⟨h.1,fun i hi=>⟨fk x.keep.w _ _ (h.2 i hi).2 (h.2 i hi).1,V.jo x.len _ (h.2 i hi).2⟩⟩
def Ji (d:Option Nat) (x:Value) (t:Array Value):Array Value:=match d with|some d=>t.setIfInBounds d x|none=>t
theorem kj.put {g:Gh} {H:Hp} {N:Nat} {e:Env} {t:Array Value} (h:kj g H N e t) {d:Option Nat} {v:V} {x:Value} (hd:∀ k,d=some k->k < N) (hr:bW g H v x) (hu:v.und H.length=true):
 kj g H N (fT d v e) (Ji d x t):=by
 cases d with
 |none=>exact h
 |some k=>
  simp only[Ji];refine⟨by simpa using h.1,fun i hi=>?_⟩;have hk:=hd k rfl;simp only[fT,bP];by_cases hki:k=i
  ·subst hki;rw[ay rfl];have:(t.setIfInBounds k x).getD k undef=x:=by simp[Array.getD,h.1,hi]
   rw[this];exact⟨hr,hu⟩
  ·rw[aA hki];have:(t.setIfInBounds k x).getD i undef=t.getD i undef:=by
    simp only[jK,Array.getElem?_setIfInBounds];rw[aA hki]
   rw[this];exact h.2 i hi
inductive bK (P:Program) (cx:Cx) (nb:Nat) (g:Gh) (H:Hp) (w:World) (r:V) (H':Hp):Result Next->Prop
 |val (g':Gh) (x:Value) (w':World):Inv cx g' H' w'->bW g' H' r x->r.und H'.length=true->Ext nb g H w g' H' w'->bK P cx nb g H w r H' (.ok (.value x) w')
 |skip (g':Gh) (w':World):Inv cx g' H' w'->r= .undef->Ext nb g H w g' H' w'->bK P cx nb g H w r H' (.ok .skip w')
 |call (f:FuncId) (args:Array Value):Calls P f args w (fun e w'=> ∃ g' x,e= .returned x/\Inv cx g' H' w'/\bW g' H' r x/\r.und H'.length=true/\Ext nb g H w g' H' w')->bK P cx nb g H w r H' (.ok (.enter f args) w)
theorem bK.wp {P:Program} {cx:Cx} {nb:Nat} {g:Gh} {H:Hp} {w:World} {r:V} {H':Hp} {o:Oper} {a:Act} {K:Act->World->Prop} {Q:Exit->Act->World->Prop}
 (h:bK P cx nb g H w r H' ((execOp a.eval o).run P w))
 (hk:∀ g' x w',Inv cx g' H' w'->bW g' H' r x->r.und H'.length=true->Ext nb g H w g' H' w'->K (a.put o.dst x) w'):o.wp P a w K Q:=by
 unfold Oper.wp;generalize(execOp a.eval o).run P w=res at h;cases h with
 |val g' x w' h1 h2 h3 h4=>exact hk g' x w' h1 h2 h3 h4
 |skip g' w' h1 h2 h4=>subst h2;exact hk g' Go.undef w' h1 trivial rfl h4
 |call f args hc=>
  rw[Oper.upon_enter];refine hc.mono fun e w' he=>?_;obtain⟨g',x,rfl,h1,h2,h3,h4⟩:=he;exact hk g' x w' h1 h2 h3 h4
section
variable {P:Program} {cx:Cx} {nb:Nat} {g:Gh} {H:Hp} {w:World}
theorem bK.pure {r:V} {x:Value} {res:Result Next} (hI:Inv cx g H w) (he:res= .ok (.value x) w) (hr:bW g H r x) (hu:r.und H.length=true):bK P cx nb g H w r H res:=by
 subst he;exact .val g x w hI hr hu (Ext.refl ..)
theorem nY:∀ {l:List D} {vs:List Value},db g.C l vs->cP g H (l.map V.d) vs
 |[],vs,r=>by simp only[db]at r;subst r;simp[cP]
 |d::ds,vs,r=>by
  simp only[db]at r;obtain⟨y,ys,rfl,h1,h2,h3⟩:=r;simp only[aB,cP];refine⟨y,ys,rfl,?_,?_,nY h3⟩
  ·cases d<;>first|rfl|cases h1
  ·simp only[bW];exact IA h1 h2
theorem mH (n:Nat):∀ l:List D,br n (l.map V.d)=true
 |[]=>rfl
 |d::ds=>by simp only[aB,br,mH n ds,bo];rfl
theorem xL:∀ {l:List V} {ds:List D} {vs:List Value},kC l=some ds->cP g H l vs->db g.C ds vs
 |[],ds,vs,h,r=>by simp only[kC,aa]at h;subst h;simpa only[cP,db] using r
 |v::l,ds,vs,h,r=>by
  simp only[cP]at r;obtain⟨y,ys,rfl,h1,h2,h3⟩:=r;cases v with
  |d x=>
   simp only[kC]at h;obtain⟨xs,hx,rfl⟩:=aj.1 h;simp only[db];have hone:x.one=true:=by cases x<;>first|rfl|cases h1
   refine⟨y,ys,rfl,hone,?_,xL hx h3⟩;simp only[bW]at h2;cases x<;>first|exact h2|cases hone
  |_=>simp[kC]at h
theorem uK {l:List V} {vs:List Value} (r:cP g H l vs):bW g H (kb l) (.agg vs.toArray):=by
 unfold kb;split
 ·rename_i ds hd;simp only[bW,du];exact⟨_,rfl,by simpa using xL hd r⟩
 ·simp only[bW];exact⟨_,rfl,by simpa using r⟩
theorem uJ {l:List V} {n:Nat} (r:br n l=true):(kb l).und n=true:=by
 unfold kb;split
 ·rfl
 ·simpa only[V.und] using r
theorem yI {v:V} {x:Value} (ho:v.cells.all V.one=true) (r:bW g H v x):cP g H v.cells x.cells.toList:=by
 have one (hv:v.one=true) (hc:v.cells=[v]) (hx:x.cells= #[x]):cP g H v.cells x.cells.toList:=by
  rw[hc,hx];simp only[cP];exact⟨x,[],rfl,hv,r,rfl⟩
 cases v with
 |d d=>
  cases d with
  |agg l=>
   simp only[bW,du]at r;obtain⟨cs,rfl,r⟩:=r;exact nY r
  |bool b=>exact one rfl rfl (by simp only[bW,du,bD]at r;cases r;rfl)
  |int k n=>exact one rfl rfl (by simp only[bW,du,bD]at r;cases r;rfl)
  |str s=>exact one rfl rfl (by simp only[bW,du,bD]at r;cases r;rfl)
  |sl l=>exact one rfl rfl (by simp only[bW,du,bD]at r;obtain⟨a,cap,h,_⟩:=r;cases h;rfl)
 |agg l=>
  simp only[bW]at r;obtain⟨cs,rfl,r⟩:=r;exact r
 |tup l=>cases ho
 |undef=>cases ho
 |nils=>exact one rfl rfl (by simp only[bW]at r;subst r;rfl)
 |row id len=>exact one rfl rfl (by simp only[bW]at r;obtain⟨a,cap,sz,l,rfl,_⟩:=r;rfl)
 |arr id off len=>exact one rfl rfl (by simp only[bW]at r;obtain⟨_,b,c,cap,_,rfl,_⟩:=r;rfl)
 |ptr id off=>exact one rfl rfl (by simp only[bW]at r;obtain⟨_,b,c,_,rfl⟩:=r;rfl)
 |mp id=>exact one rfl rfl (by simp only[bW]at r;obtain⟨_,b,c,_,rfl⟩:=r;rfl)
 |ro l off=>exact one rfl rfl (by simp only[bW]at r;obtain⟨b,o,vs,rfl,_⟩:=r;rfl)
 |fn f c=>exact one rfl rfl (by simp only[bW]at r;obtain⟨cs,rfl,_⟩:=r;rfl)
 |fm f c=>exact one rfl rfl (by simp only[bW]at r;obtain⟨cs,rfl,_⟩:=r;rfl)
 |nul=>exact one rfl rfl (by simp only[bW]at r;subst r;rfl)
 |nof=>exact one rfl rfl (by simp only[bW]at r;subst r;rfl)
 |ifc b=>exact one rfl rfl (by simp only[bW]at r;rcases r with⟨_,rfl⟩|⟨_,t,y,rfl⟩<;>rfl)
 |raw y=>cases ho
 |nmp=>exact one rfl rfl (by simp only[bW]at r;subst r;rfl)
 |nile=>exact one rfl rfl (by simp only[bW]at r;obtain⟨a,rfl,_⟩:=r;rfl)
theorem uj {v:V} {n:Nat} (u:v.und n=true) (ho:v.cells.all V.one=true):br n v.cells=true:=by
 cases v with
 |d d=>cases d<;>first|rfl|exact mH n _
 |agg l=>simpa only[V.und,V.cells] using u
 |tup l=>cases ho
 |undef=>cases ho
 |_=>simp only[V.cells,br,bo];exact u
theorem gM:∀ {l:List V} {vs:List Value},cP g H l vs->vs.length=l.length
 |[],vs,r=>by simp only[cP]at r;subst r;rfl
 |d::ds,vs,r=>by
  simp only[cP]at r;obtain⟨y,ys,rfl,_,_,h3⟩:=r;simp[gM h3]
theorem V0 {v:V} {x:Value} (h:v.one=true) (r:bW g H v x):x.oneCell'=true:=by
 cases v with
 |d d=>
  simp only[bW]at r;cases d with
  |agg l=>cases h
  |_=>exact yK rfl r
 |agg l=>cases h
 |tup l=>cases h
 |undef=>cases h
 |nils=>simp only[bW]at r;subst r;rfl
 |row id len=>simp only[bW]at r;obtain⟨a,cap,sz,l,rfl,_⟩:=r;rfl
 |arr id off len=>simp only[bW]at r;obtain⟨_,b,c,cap,_,rfl,_⟩:=r;rfl
 |ptr id off=>simp only[bW]at r;obtain⟨_,b,c,_,rfl⟩:=r;rfl
 |mp id=>simp only[bW]at r;obtain⟨_,b,c,_,rfl⟩:=r;rfl
 |ro l off=>simp only[bW]at r;obtain⟨b,o,vs,rfl,_⟩:=r;rfl
 |fn f c=>simp only[bW]at r;obtain⟨cs,rfl,_⟩:=r;rfl
 |fm f c=>simp only[bW]at r;obtain⟨cs,rfl,_⟩:=r;rfl
 |nul=>simp only[bW]at r;subst r;rfl
 |nof=>simp only[bW]at r;subst r;rfl
 |ifc b=>simp only[bW]at r;rcases r with⟨_,rfl⟩|⟨_,t,y,rfl⟩<;>rfl
 |raw y=>cases h
 |nmp=>simp only[bW]at r;subst r;rfl
 |nile=>simp only[bW]at r;obtain⟨a,rfl,_⟩:=r;rfl
theorem BT:∀ {l:List V} {vs:List Value},cP g H l vs->∀ v∈vs,v.oneCell'=true
 |[],vs,r,v,hv=>by simp only[cP]at r;subst r;cases hv
 |d::ds,vs,r,v,hv=>by
  simp only[cP]at r;obtain⟨y,ys,rfl,h1,h2,h3⟩:=r;cases hv with
  |head=>exact V0 h1 h2
  |tail _ hm=>exact BT h3 v hm
theorem qR:∀ {l:List V} {vs:List Value} {i:Nat} {v:V},cP g H l vs->l[i]? =some v->∃ y,vs[i]? =some y/\v.one=true/\bW g H v y
 |[],vs,i,d,r,h=>by simp at h
 |d::ds,vs,0,d',r,h=>by
  simp only[cP]at r;obtain⟨y,ys,rfl,h1,h2,h3⟩:=r;simp only[aV,aa]at h;subst h;exact⟨y,rfl,h1,h2⟩
 |d::ds,vs,i+1,d',r,h=>by
  simp only[cP]at r;obtain⟨y,ys,rfl,h1,h2,h3⟩:=r;simp only[bR]at h⊢;exact qR h3 h
theorem sb:∀ {l:List V} {vs:List Value} (k:Nat),cP g H l vs->cP g H (l.take k) (vs.take k)
 |[],vs,k,r=>by simp only[cP]at r;subst r;simp[cP]
 |d::ds,vs,0,r=>by simp[cP]
 |d::ds,vs,k+1,r=>by
  simp only[cP]at r;obtain⟨y,ys,rfl,h1,h2,h3⟩:=r;simp only[cB,cP];exact⟨y,ys.take k,rfl,h1,h2,sb k h3⟩
theorem sc:∀ {l:List V} {vs:List Value} (k:Nat),cP g H l vs->cP g H (l.drop k) (vs.drop k)
 |[],vs,k,r=>by simp only[cP]at r;subst r;simp[cP]
 |d::ds,vs,0,r=>by simpa using r
 |d::ds,vs,k+1,r=>by
  simp only[cP]at r;obtain⟨y,ys,rfl,h1,h2,h3⟩:=r;simp only[cm];exact sc k h3
theorem sQ {n:Nat}:∀ {l:List V} {i:Nat} {v:V},br n l=true->l[i]? =some v->v.und n=true
 |[],i,v,_,h=>by simp at h
 |x::xs,0,v,u,h=>by
  simp only[br,ab]at u;simp only[aV,aa]at h;subst h;exact u.1
 |x::xs,i+1,v,u,h=>by
  simp only[br,ab]at u;simp only[bR]at h;exact sQ u.2 h
theorem um {n:Nat}:∀ {l:List V} (k:Nat),br n l=true->br n (l.drop k)=true
 |[],k,u=>by simp[br]
 |x::xs,0,u=>by simpa using u
 |x::xs,k+1,u=>by
  simp only[br,ab]at u;simp only[cm];exact um k u.2
theorem uk {n:Nat}:∀ {l:List V} (k:Nat),br n l=true->br n (l.take k)=true
 |[],k,u=>by simp[br]
 |x::xs,0,u=>by simp[br]
 |x::xs,k+1,u=>by
  simp only[br,ab]at u;simp only[cB,br,ab];exact⟨u.1,uk k u.2⟩
theorem wH {v:V} {d:D} {x:Value} (hI:Inv cx g H w) (h:im H v=some d) (r:bW g H v x):du g.C d x:=by
 cases v with
 |d y=>simp only[im,aa]at h;subst h;simpa only[bW] using r
 |nils=>simp only[im,aa]at h;subst h;simp only[bW]at r;subst r;exact⟨none,0,rfl,ai _,.inl rfl⟩
 |nile=>simp only[im,aa]at h;subst h;simp only[bW]at r;obtain⟨a,rfl,_⟩:=r;exact⟨a,0,rfl,ai _,.inl rfl⟩
 |row id len=>
  simp only[bW]at r;obtain⟨a,cap,sz,l,rfl,ho,h1,h2⟩:=r;simp only[im,ho]at h;split at h
  ·rename_i hl;simp only[aa]at h;subst h;simp only[du,bD];refine⟨a,cap,by rw[hl],?_⟩;rcases h2 hl.symm with⟨h0,_,_⟩|⟨b,hJ,rfl⟩
   ·rw[h0]at hl;have:=bZ hl;subst this;exact⟨aR _,.inl rfl⟩
   ·have:=hI.ob id b cap _ hJ ho;obtain⟨cur,e,_,h4,h5,h6,_⟩:=this;exact⟨h6,.inr ⟨b,0,sz,g.C b,rfl,h5,by simp,h4⟩⟩
  ·cases h
 |arr id off len=>
  simp only[bW]at r;obtain⟨⟨o,ho,_⟩,b,c,cap,hJ,rfl,hlc⟩:=r;simp only[im,ho]at h;split at h
  ·rename_i c' hc;simp only[aa]at hc;subst hc;split at h
   ·rename_i hl;simp only[aa]at h;subst h;simp only[du,bD];refine⟨_,cap,by simp;omega,by simp;omega,.inr ⟨b,off,1,((g.C b).drop off).take len,rfl,om,m7 _ _,?_⟩⟩;have:=hI.ob id b c _ hJ ho;exact Iz (BX len (B7 off this))
   ·cases h
  ·cases h
 |_=>simp[im]at h
theorem F7 (hI:Inv cx g H w):∀ {l:List V} {ds:List D} {vs:List Value},xW H l=some ds->cP g H l vs->db g.C ds vs
 |[],ds,vs,h,r=>by simp only[xW,aa]at h;subst h;simpa only[cP,db] using r
 |v::l,ds,vs,h,r=>by
  simp only[cP]at r;obtain⟨y,ys,rfl,h1,h2,h3⟩:=r;simp only[xW]at h;split at h
  ·rename_i x xs hx hxs;simp only[aa]at h;subst h;simp only[db];have hrep:=wH hI hx h2;have hone:x.one=true:=by
    cases v with
    |d q=>simp only[im,aa]at hx;subst hx;cases q<;>first|rfl|cases h1
    |nils=>simp only[im,aa]at hx;subst hx;rfl
    |nile=>simp only[im,aa]at hx;subst hx;rfl
    |row id len=>simp only[im]at hx;split at hx<;>first|(split at hx<;>cases hx;rfl)|cases hx
    |arr id off len=>simp only[im]at hx;split at hx<;>first|(split at hx<;>cases hx;rfl)|cases hx
    |_=>simp[im]at hx
   refine⟨y,ys,rfl,hone,?_,F7 hI hxs h3⟩;cases x<;>first|exact hrep|cases hone
  ·cases h
theorem zu {v:V} {d:D} {x:Value} (hI:Inv cx g H w) (h:wu H v=some d) (r:bW g H v x):du g.C d x:=by
 cases v with
 |agg l=>
  simp only[wu]at h;obtain⟨ds,hd,rfl⟩:=aj.1 h;simp only[bW]at r;obtain⟨cs,rfl,r⟩:=r;exact⟨cs,rfl,F7 hI hd r⟩
 |_=>exact wH hI (by simpa only[wu] using h) r
theorem CU {v:V} {x:Value} (hI:Inv cx g H w) (r:bW g H v x):bW g H (toArg H v) x:=by
 unfold toArg;split
 ·rename_i d hd;simp only[bW];exact zu hI hd r
 ·exact r
theorem CT {v:V} {n:Nat} (u:v.und n=true):(toArg H v).und n=true:=by
 unfold toArg;split
 ·rfl
 ·exact u
theorem MB (H:Hp) (v:V):iX H v=v\/iX H v=toArg H v:=by
 unfold iX;split
 ·exact .inl rfl
 ·exact .inr rfl
theorem Tc {v:V} {x:Value} (hI:Inv cx g H w) (r:bW g H v x):bW g H (iX H v) x:=by
 rcases MB H v with e|e<;>rw[e]
 ·exact r
 ·exact CU hI r
theorem Tb {v:V} {n:Nat} (u:v.und n=true):(iX H v).und n=true:=by
 rcases MB H v with e|e<;>rw[e]
 ·exact u
 ·exact CT u
end
section
variable {P:Program} {cx:Cx} {nb:Nat} {g:Gh} {H:Hp} {w:World}
theorem wc {x:Value} {v:V} (h:BF x=some v):bW g H v x/\v.und 0=true/\v.one=true:=by
 unfold BF at h;split at h<;>first|cases h|skip
 ·exact⟨by simp[bW,du,bD],rfl,rfl⟩
 ·exact⟨by simp[bW,du,bD],rfl,rfl⟩
 ·rename_i s;refine⟨?_,rfl,rfl⟩;simp only[bW,du,bD]
 ·exact⟨by simp[bW],rfl,rfl⟩
 ·exact⟨by simp[bW],rfl,rfl⟩
 ·exact⟨by simp[bW],rfl,rfl⟩
 ·exact⟨by simp[bW],rfl,rfl⟩
 ·exact⟨by simp[bW],rfl,rfl⟩
theorem iJ:∀ {xs:List Value} {l:List V},qa xs=some l->cP g H l xs/\br 0 l=true
 |[],l,h=>by simp only[qa,aa]at h;subst h;exact⟨by simp[cP],rfl⟩
 |x::xs,l,h=>by
  simp only[qa]at h;split at h
  ·rename_i v vs hv hvs;simp only[aa]at h;subst h;obtain⟨h1,h2,h3⟩:=wc (g:=g) (H:=H) hv;obtain⟨h4,h5⟩:=iJ hvs;exact⟨by simp only[cP];exact⟨x,xs,rfl,h3,h1,h4⟩,by simp only[br,h2,h5,cF]⟩
  ·cases h
theorem df {N:Nat} {e:Env} {a:Act} (hI:Inv cx g H w) (hE:kj g H N e a.tmps) {x:Operand} {vx:eo} (h:iq x=some vx) (hl:vx.lt N=true):
 bW g H (di cx e vx) (a.eval x)/\(di cx e vx).und H.length=true:=by
 unfold iq at h;split at h
 ·rename_i t;simp only[aa]at h;subst h;exact hE.2 t (by simpa [eo.lt] using hl)
 ·rename_i c;obtain⟨l,hl',rfl⟩:=aj.1 h;obtain⟨h1,h2⟩:=iJ (g:=g) (H:=H) hl';have:=uK h1;refine⟨?_,V.jo (aR _) _ (uJ h2)⟩;simpa [di,Act.eval] using this
 ·rename_i v _;obtain⟨q,hq,rfl⟩:=aj.1 h;obtain⟨h1,h2,_⟩:=wc (g:=g) (H:=H) hq;exact⟨h1,V.jo (aR _) _ h2⟩
 ·rename_i i;simp only[aa]at h;subst h;obtain⟨vs,h1,h2⟩:=hI.glob i;refine⟨?_,rfl⟩;simp only[di,bW,Act.eval];exact⟨i,0,vs,rfl,by simpa using h1,h2⟩
 ·simp only[aa]at h;subst h;refine⟨?_,rfl⟩;simp only[di,bW,Act.eval];exact⟨#[],rfl,by simp[bN]⟩
theorem uH {N:Nat} {e:Env} {a:Act} (hI:Inv cx g H w) (hE:kj g H N e a.tmps):∀ {xs:List Operand} {vs:List eo},ov xs=some vs->vs.all (eo.lt N)=true->
 bN g H (vs.map (di cx e)) (xs.map a.eval)/\br H.length (vs.map (di cx e))=true
 |[],vs,h,_=>by simp only[ov,aa]at h;subst h;exact⟨by simp[bN],rfl⟩
 |x::xs,vs,h,hl=>by
  simp only[ov]at h;split at h
  ·rename_i v vs' hv hvs;simp only[aa]at h;subst h;simp only[aQ,ab]at hl;obtain⟨h1,h2⟩:=df hI hE hv hl.1;obtain⟨h3,h4⟩:=uH hI hE hvs hl.2;exact⟨by simp only[aB,bN];exact⟨_,_,rfl,h1,h3⟩,by simp only[aB,br,h2,h4,cF]⟩
  ·cases h
theorem pE (hI:Inv cx g H w):∀ {l:List V} {vs:List Value},bN g H l vs->bN g H (l.map (toArg H)) vs
 |[],vs,r=>by simpa only[bN,bp] using r
 |v::l,vs,r=>by
  simp only[bN,aB]at r⊢;obtain⟨y,ys,rfl,h1,h2⟩:=r;exact⟨y,ys,rfl,CU hI h1,pE hI h2⟩
theorem CN {n:Nat}:∀ {l:List V},br n l=true->br n (l.map (toArg H))=true
 |[],_=>rfl
 |v::l,u=>by
  simp only[br,aB,ab]at u⊢;exact⟨CT u.1,CN u.2⟩
theorem nZ (hI:Inv cx g H w):∀ {l:List V} {vs:List Value},bN g H l vs->bN g H (l.map (iX H)) vs
 |[],vs,r=>by simpa only[bN,bp] using r
 |v::l,vs,r=>by
  simp only[bN,aB]at r⊢;obtain⟨y,ys,rfl,h1,h2⟩:=r;exact⟨y,ys,rfl,Tc hI h1,nZ hI h2⟩
theorem oT {n:Nat}:∀ {l:List V},br n l=true->br n (l.map (iX H))=true
 |[],_=>rfl
 |v::l,u=>by
  simp only[br,aB,ab]at u⊢;exact⟨Tb u.1,oT u.2⟩
theorem mi:∀ {l l':List V} {vs vs':List Value},bN g H l vs->bN g H l' vs'->bN g H (l++l') (vs++vs')
 |[],l',vs,vs',r,r'=>by simp only[bN]at r;subst r;exact r'
 |v::l,l',vs,vs',r,r'=>by
  simp only[bN]at r;obtain⟨y,ys,rfl,h1,h2⟩:=r;simp only[al,bN];exact⟨y,ys++vs',rfl,h1,mi h2 r'⟩
theorem jN {n:Nat}:∀ {l l':List V},br n l=true->br n l'=true->br n (l++l')=true
 |[],l',_,u'=>u'
 |v::l,l',u,u'=>by
  simp only[br,al,ab]at u⊢;exact⟨u.1,jN u.2 u'⟩
theorem ng {k:IntKind} {n:Int} {x:Value} (r:bW g H (.d (.int k n)) x):x= .int k n:=by simp only[bW,du,bD]at r;cases r;rfl
theorem oW {b:Bool} {x:Value} (r:bW g H (.d (.bool b)) x):x= .bool b:=by simp only[bW,du,bD]at r;cases r;rfl
theorem wN {s:List UInt8} {x:Value} (r:bW g H (.d (.str s)) x):x= .string ⟨s.toArray⟩:=by simp only[bW,du,bD]at r;cases r;rfl
theorem lX (k:IntKind) (n:Int):bW g H (.d (.int k n)) (.int k n):=by simp[bW,du,bD]
theorem qN (b:Bool):bW g H (.d (.bool b)) (.bool b):=by simp[bW,du,bD]
theorem K7 (s:List UInt8):bW g H (.d (.str s)) (.string ⟨s.toArray⟩):=by simp[bW,du,bD]
theorem VQ {op:BinOp} {vx vy r:V} {x y:Value} (t:TypeId) (h:fJ op vx vy=some r) (rx:bW g H vx x) (ry:bW g H vy y) (tx ty:Operand):
 ∃ z,(do eqGuard op t tx ty x y;binOp op t x y:Sem Value).run P w= .ok z w/\bW g H r z/\r.und H.length=true:=by
 unfold fJ at h;split at h
 ·rename_i k a k' b;obtain rfl:=ng rx;obtain rfl:=ng ry;have hg:∀ op,(eqGuard op t tx ty (.int k a) (.int k' b)).run P w= .ok () w:=by
   intro op;cases op<;>simp[eqGuard]
  simp only[Sem.run_bind,hg,Result.andThen_ok];cases op<;>simp only at h
  case shl=>
   split at h<;>cases h;refine⟨_,?_,lX _ _,rfl⟩;simp[binOp,Op.shift];omega
  case shr=>
   split at h<;>cases h;refine⟨_,?_,lX _ _,rfl⟩;simp[binOp,Op.shift];omega
  case and|or|xor|andNot=>
   split at h
   ·rename_i hk;subst hk;simp only[xH,aI,aa]at h;subst h;exact⟨_,by simp[binOp,Op.intBits],lX _ _,rfl⟩
   ·cases h
  case quo|rem=>
   split at h<;>cases h;rename_i hk;obtain⟨rfl,hb⟩:=hk;exact⟨_,by simp[binOp,Op.intDiv,hb],lX _ _,rfl⟩
  case add|sub|mul=>
   split at h<;>cases h;rename_i hk;subst hk;exact⟨_,by simp[binOp,Op.intArith],lX _ _,rfl⟩
  all_goals
   split at h<;>cases h;rename_i hk;subst hk;exact⟨_,by simp[binOp,Op.intCmp],qN _,rfl⟩
 ·rename_i a b;obtain rfl:=wN rx;obtain rfl:=wN ry;have hg:∀ op,(eqGuard op t tx ty (.string ⟨a.toArray⟩) (.string ⟨b.toArray⟩)).run P w= .ok () w:=by
   intro op;cases op<;>simp[eqGuard]
  simp only[Sem.run_bind,hg,Result.andThen_ok];cases op<;>simp only at h<;>first|cases h|skip
  case add=>
   split at h<;>cases h;rename_i hl;refine⟨.string ⟨(a++b).toArray⟩,?_,K7 _,rfl⟩;have hs:¬ ((((⟨a.toArray⟩:ByteArray).size+(⟨b.toArray⟩:ByteArray).size:Nat):Int) > IntKind.i64.max):=by
    simp[ByteArray.size,IntKind.max,IntKind.signed,IntKind.bits];omega
   simp only[binOp,Op.stringOp,aA hs,Sem.run_pure]
   first|(congr 2;done)|(congr 2;apply ByteArray.ext;simp)
  ·exact⟨.bool (a==b),by simp[binOp,Op.stringOp],qN _,rfl⟩
  ·exact⟨.bool (!(a==b)),by simp[binOp,Op.stringOp],qN _,rfl⟩
 ·cases h
end
end Go.Vm
