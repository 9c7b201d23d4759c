import GoSem.Dispatch
set_option linter.unusedSimpArgs false
set_option linter.unusedVariables false
namespace Go.Vm

inductive D where
  | bool (b : Bool)
  | int (k : IntKind) (n : Int)
  | str (s : List UInt8)
  | sl (l : List D)
  | agg (l : List D)
  deriving Inhabited

inductive V where
  | d (x : D)
  | agg (l : List V)
  | tup (l : List V)
  | nils
  | row (id len : Nat)
  | arr (id off len : Nat)
  | ptr (id off : Nat)
  | ro (l : List D) (off : Nat)
  | fn (f : Nat) (c : List V)
  | nul
  | nof
  | ifc (isnil : Bool)
  | raw (x : Value)
  | nmp
  | nile
  | mp (id : Nat)
  | undef
  deriving Inhabited

inductive Ob where
  | box (c : List V)
  | frz (c : List D)
  | row (sz : Nat) (l : List D)
  | map (l : List (D × D))
  deriving Inhabited

inductive Opd where
  | t (i : Nat)
  | c (v : V)
  | g (i : Nat)
  | f (i : Nat)
  deriving Inhabited

inductive VOp where
  | mv (x : Opd)
  | pick (c a b : Opd)
  | zbox (z : List V)
  | box (x : Opd)
  | build (z : List V) (ps : List (Nat × Nat × Opd))
  | bslice (sz len : Nat) (ps : List Opd)
  | brow (sz : Nat)
  | ld (n : Option Nat) (x : Opd)
  | st (n : Nat) (a x : Opd)
  | nilck (x : Opd)
  | bin (op : BinOp) (x y : Opd)
  | eqa (neg : Bool) (ks : List Nat) (x y : Opd)
  | eqb (neg : Bool) (x y : Opd)
  | isnil (neg : Bool) (x : Opd)
  | un (op : UnOp) (x : Opd)
  | conv (k : IntKind) (x : Opd)
  | mkfn (f : Nat) (caps : List Opd)
  | fld (off : Nat) (n : Option Nat) (x : Opd)
  | fadr (off : Nat) (x : Opd)
  | iadr (sz : Nat) (x i : Opd)
  | iadra (len sz : Nat) (x i : Opd)
  | idx (x i : Opd)
  | slcs (x : Opd) (lo hi : Option Opd)
  | slc (sz : Nat) (x : Opd) (lo hi : Option Opd)
  | ext (x : Opd) (i : Nat)
  | call (f : Nat) (args : List Opd)
  | callv (f : Opd) (args : List Opd)
  | len (str : Bool) (x : Opd)
  | convs (x : Opd)
  | app (sz bytes : Nat) (x y : Opd)
  | msl (sz bytes : Nat) (z : List V) (n : Opd)
  | mm (max : Bool) (x y : Opd)
  | abs (len : Nat) (ps : List Opd)
  | mark (x : Opd)
  | mkm
  | no
  | mput (kk : Nat) (m k v : Opd)
  | mget (kk : Nat) (ok : Bool) (z : D) (m k : Opd)
  | ment (kk : Nat) (z : D) (m k : Opd)
  | mest (m s v : Opd)
  deriving Inhabited

structure VOper where
  dst : Option Nat
  op : VOp
  guard : Option (Nat × Bool) := none
  deriving Inhabited

inductive VCode where
  | skip
  | reg (ops : List VOper)
  | draw (m : Nat) (ops : List VOper)
  | seq (a b : VCode)
  | cond (c : Opd) (a b : VCode)
  | block (id : Nat) (b : VCode)
  | loop (keep : List Nat) (b : VCode)
  | scope (b : VCode)
  | exit (id : Nat)
  | ret
  | newrow (sz slot : Nat)
  | bindrow (sz slot off : Nat)
  | freeze (slot : Nat)
  | mkrow (sz : Nat)
  | bindto (slot off back : Nat)
  deriving Inhabited

inductive VRes where
  | tmp (t : Nat)
  | cell (t : Nat) (n : Option Nat)
  deriving Inhabited

structure VFn where
  np : Nat
  nt : Nat
  body : VCode
  res : List VRes
  keep : Bool := false

inductive Ex where
  | nrm
  | exit (id : Nat)
  | ret

abbrev Env := List (Nat × V)
abbrev Hp := List Ob

def D.cells : D → List D
  | .agg l => l
  | x => [x]

def V.cells : V → List V
  | .d (.agg l) => l.map V.d
  | .agg l => l
  | x => [x]

def V.one : V → Bool
  | .agg _ | .tup _ | .d (.agg _) | .undef | .raw _ => false
  | _ => true

def D.one : D → Bool
  | .agg _ => false
  | _ => true

def allD : List V → Option (List D)
  | [] => some []
  | .d x :: r => (allD r).map (x :: ·)
  | _ => none

def mkAgg (l : List V) : V := match allD l with | some ds => .d (.agg ds) | none => .agg l

def toD1 (H : Hp) : V → Option D
  | .d x => some x
  | .nils => some (.sl [])
  | .nile => some (.sl [])
  | .row id len => match H[id]? with | some (.row _ l) => if l.length = len then some (.sl l) else none | _ => none
  | .arr id off len => match H[id]? with | some (.frz c) => if off + len ≤ c.length then some (.sl ((c.drop off).take len)) else none | _ => none
  | _ => none

def toDs (H : Hp) : List V → Option (List D)
  | [] => some []
  | v :: r => match toD1 H v, toDs H r with | some x, some xs => some (x :: xs) | _, _ => none

def toD (H : Hp) : V → Option D
  | .agg l => (toDs H l).map .agg
  | v => toD1 H v

def toArg (H : Hp) (v : V) : V := match toD H v with | some x => .d x | none => v

def getE : Env → Nat → V
  | [], _ => .undef
  | (k, v) :: r, i => if k = i then v else getE r i

def keepE (ks : List Nat) (e : Env) : Env := ks.map fun k => (k, getE e k)

mutual
/-- Everything that a value leads to stands below n. -/
def V.und (n : Nat) : V → Bool
  | .row id _ => decide (id < n)
  | .arr id _ _ => decide (id < n)
  | .ptr id _ => decide (id < n)
  | .mp id => decide (id < n)
  | .agg l => undL n l
  | .tup l => undL n l
  | .fn _ l => undL n l
  | _ => true
def undL (n : Nat) : List V → Bool
  | [] => true
  | v :: r => V.und n v && undL n r
end

def cut (n : Nat) (e : Env) : Env := e.map fun (k, v) => (k, if v.und n then v else .undef)

def bitsI (op : BinOp) (k : IntKind) (x y : Int) : Option Int :=
  let a := BitVec.ofInt k.bits x
  let b := BitVec.ofInt k.bits y
  match op with
  | .and => some (k.wrap (a &&& b).toNat)
  | .or => some (k.wrap (a ||| b).toNat)
  | .xor => some (k.wrap (a ^^^ b).toNat)
  | .andNot => some (k.wrap (a &&& ~~~b).toNat)
  | _ => none

def binV (op : BinOp) : V → V → Option V
  | .d (.int k a), .d (.int k' b) =>
    match op with
    | .shl => if 0 ≤ b then some (.d (.int k (k.wrap (a * 2 ^ (min b.toNat k.bits))))) else none
    | .shr => if 0 ≤ b then some (.d (.int k (a.fdiv (2 ^ (min b.toNat k.bits))))) else none
    | .add => if k = k' then some (.d (.int k (k.wrap (a + b)))) else none
    | .sub => if k = k' then some (.d (.int k (k.wrap (a - b)))) else none
    | .mul => if k = k' then some (.d (.int k (k.wrap (a * b)))) else none
    | .quo => if k = k' ∧ b ≠ 0 then some (.d (.int k (k.wrap (a.tdiv b)))) else none
    | .rem => if k = k' ∧ b ≠ 0 then some (.d (.int k (a.tmod b))) else none
    | .and => if k = k' then (bitsI .and k a b).map fun n => .d (.int k n) else none
    | .or => if k = k' then (bitsI .or k a b).map fun n => .d (.int k n) else none
    | .xor => if k = k' then (bitsI .xor k a b).map fun n => .d (.int k n) else none
    | .andNot => if k = k' then (bitsI .andNot k a b).map fun n => .d (.int k n) else none
    | .eql => if k = k' then some (.d (.bool (a == b))) else none
    | .neq => if k = k' then some (.d (.bool (a != b))) else none
    | .lss => if k = k' then some (.d (.bool (decide (a < b)))) else none
    | .leq => if k = k' then some (.d (.bool (decide (a ≤ b)))) else none
    | .gtr => if k = k' then some (.d (.bool (decide (b < a)))) else none
    | .geq => if k = k' then some (.d (.bool (decide (b ≤ a)))) else none
  | .d (.str a), .d (.str b) =>
    match op with
    | .add => if a.length + b.length ≤ 9223372036854775807 then some (.d (.str (a ++ b))) else none
    | .eql => some (.d (.bool (a == b)))
    | .neq => some (.d (.bool !(a == b)))
    | _ => none
  | _, _ => none

def eq1 : D → D → Bool
  | .bool a, .bool b => a == b
  | .int _ a, .int _ b => a == b
  | .str a, .str b => a == b
  | _, _ => false

def eqL : List D → List D → Bool
  | [], [] => true
  | a :: x, b :: y => eq1 a b && eqL x y
  | _, _ => false

def kindOk : List Nat → List D → List D → Bool
  | [], [], [] => true
  | 0 :: ks, .bool _ :: a, .bool _ :: b => kindOk ks a b
  | 1 :: ks, .int k _ :: a, .int k' _ :: b => k == k' && kindOk ks a b
  | 2 :: ks, .str _ :: a, .str _ :: b => kindOk ks a b
  | _, _, _ => false

def unV (op : UnOp) : V → Option V
  | .d (.int k n) => match op with
    | .neg => some (.d (.int k (k.wrap (0 - n))))
    | _ => none
  | .d (.bool b) => match op with
    | .not => some (.d (.bool !b))
    | _ => none
  | _ => none

def putAt : List V → Nat → List V → List V
  | cs, _, [] => cs
  | [], _, _ => []
  | _ :: cs, 0, v :: vs => v :: putAt cs 0 vs
  | c :: cs, n + 1, vs => c :: putAt cs n vs

def fillV (z : List V) : List (Nat × Nat × V) → Option (List V)
  | [] => some z
  | (off, n, v) :: r => if v.cells.length = n ∧ off + n ≤ z.length then fillV (putAt z off v.cells) r else none

def cellsAt (H : Hp) : V → Option (List V × Nat)
  | .ptr id off => match H[id]? with
    | some (.box c) => some (c, off)
    | some (.frz c) => some (c.map V.d, off)
    | _ => none
  | .ro l off => some (l.map V.d, off)
  | _ => none

def partV (n : Option Nat) (c : List V) (off : Nat) : Option V :=
  match n with
  | none => c[off]?
  | some n => if off + n ≤ c.length then some (mkAgg ((c.drop off).take n)) else none

def loadV (H : Hp) (n : Option Nat) (p : V) : Option V :=
  match cellsAt H p with
  | none => none
  | some (c, off) => partV n c off

def storeV (b : Nat) (H : Hp) (n : Nat) (p x : V) : Option Hp :=
  match p with
  | .ptr id off => match H[id]? with
    | some (.box c) => if x.cells.length = n ∧ off + n ≤ c.length ∧ x.cells.all V.one ∧ (undL id x.cells || decide (b ≤ id)) then some (H.set id (.box (putAt c off x.cells))) else none
    | _ => none
  | _ => none

def idxNat (v : V) : Option Nat := match v with | .d (.int _ n) => if 0 ≤ n then some n.toNat else none | _ => none

def lenV (v : V) : Option Nat := match v with
  | .d (.sl l) => some l.length
  | .nils => some 0
  | .nile => some 0
  | .row _ n => some n
  | .arr _ _ n => some n
  | _ => none

def lsize (H : Hp) (v : V) : Option (List D) := match toD1 H v with | some (.sl l) => some l | _ => none

def roomy (n bytes : Nat) : Prop := n * bytes ≤ 140737488355328 ∧ n ≤ 9223372036854775807
instance (n b : Nat) : Decidable (roomy n b) := inferInstanceAs (Decidable (_ ∧ _))

def keyOk : Nat → D → Bool
  | 0, .bool _ => true
  | 1, .int .i64 _ => true
  | 2, .str _ => true
  | _, _ => false
def keysOk (kk : Nat) (l : List (D × D)) : Bool := l.all fun p => keyOk kk p.1
def mfind (k : D) : List (D × D) → Option D
  | [] => none
  | (a, v) :: r => if eq1 k a then some v else mfind k r
def mwhere (k : D) : List (D × D) → Option Nat
  | [] => none
  | (a, _) :: r => if eq1 k a then some 0 else (mwhere k r).map (· + 1)
def mset (k v : D) : List (D × D) → List (D × D)
  | [] => [(k, v)]
  | (a, x) :: r => if eq1 k a then (a, v) :: r else (a, x) :: mset k v r
def mput (i : Nat) (v : D) (l : List (D × D)) : List (D × D) := l.modify i fun p => (p.1, v)

abbrev Orc := Nat → List V → Hp → Option (V × Hp)

structure Cx where
  gv : Nat → List D
  fx : Nat → Option Obj := fun _ => none

def evO (cx : Cx) (e : Env) : Opd → V
  | .t i => getE e i
  | .c v => v
  | .g i => .ro (cx.gv i) 0
  | .f i => .fn i []

def mgot (ok : Bool) (z : D) (r : Option D) : V := match ok, r with
  | true, some v => .tup [.d v, .d (.bool true)]
  | true, none => .tup [.d z, .d (.bool false)]
  | false, some v => .d v
  | false, none => .d z

def evOp (cx : Cx) (orc : Orc) (b : Nat) (e : Env) (H : Hp) : VOp → Option (V × Hp)
  | .mv x => some (evO cx e x, H)
  | .pick c a b => match evO cx e c with
    | .d (.bool t) => some (if t then evO cx e a else evO cx e b, H)
    | _ => none
  | .zbox z => some (.ptr H.length 0, H ++ [.box z])
  | .box x => let c := (evO cx e x).cells; if c.all V.one then some (.ptr H.length 0, H ++ [.box c]) else none
  | .build z ps => if ps.all fun p => (evO cx e p.2.2).cells.all V.one then (fillV z (ps.map fun p => (p.1, p.2.1, evO cx e p.2.2))).map fun c => (mkAgg c, H) else none
  | .bslice sz len ps =>
    match toDs' cx e H ps with
    | some l => if l.length = len ∧ l.all (fun x => x.cells.length == sz) ∧ 0 < sz ∧ len * sz ≤ 16777216 then some (.d (.sl l), H) else none
    | none => none
  | .brow sz => if 0 < sz then some (.nile, H) else none
  | .abs len ps =>
    match toDs' cx e H ps with
    | some l => if l.length = len ∧ l.all D.one ∧ len ≤ 16777216 then some (.arr H.length 0 len, H ++ [.frz l]) else none
    | none => none
  | .mark x => match evO cx e x with
    | .arr id off len => match H[id]? with
      | some (.frz _) => some (.arr id off len, H)
      | _ => none
    | _ => none
  | .ld n x => (loadV H n (evO cx e x)).map fun v => (v, H)
  | .st n a x => (storeV b H n (evO cx e a) (evO cx e x)).map fun H' => (.undef, H')
  | .nilck x => match evO cx e x with
    | .ptr id off => some (.ptr id off, H)
    | .fn f c => some (.fn f c, H)
    | _ => none
  | .bin op x y => (binV op (evO cx e x) (evO cx e y)).map fun v => (v, H)
  | .eqa neg ks x y => match evO cx e x, evO cx e y with
    | .d (.agg a), .d (.agg b) => if kindOk ks a b then some (.d (.bool (if neg then !eqL a b else eqL a b)), H) else none
    | _, _ => none
  | .eqb neg x y => match evO cx e x, evO cx e y with
    | .d (.bool a), .d (.bool b) => some (.d (.bool (if neg then !(a == b) else a == b)), H)
    | _, _ => none
  | .isnil neg x => match evO cx e x with
    | .ifc b => some (.d (.bool (if neg then !b else b)), H)
    | _ => none
  | .un op x => (unV op (evO cx e x)).map fun v => (v, H)
  | .conv k x => match evO cx e x with
    | .d (.int _ n) => some (.d (.int k (k.wrap n)), H)
    | _ => none
  | .mkfn f caps => some (.fn f (caps.map (evO cx e)), H)
  | .fld off n x => match evO cx e x with
    | .d (.agg c) => (partV n (c.map V.d) off).map fun v => (v, H)
    | .agg c => (partV n c off).map fun v => (v, H)
    | _ => none
  | .fadr off x => match evO cx e x with
    | .ptr id o => some (.ptr id (o + off), H)
    | .ro l o => some (.ro l (o + off), H)
    | _ => none
  | .iadr sz x i => match idxNat (evO cx e i) with
    | none => none
    | some n => match evO cx e x with
      | .arr id off len => if n < len then some (.ptr id (off + n * sz), H) else none
      | v => match lsize H v with
        | some l => match l[n]? with
          | some y => if y.cells.length = sz then some (.ro y.cells 0, H) else none
          | none => none
        | none => none
  | .iadra len sz x i => match idxNat (evO cx e i) with
    | none => none
    | some n => if n < len then match evO cx e x with
      | .ptr id o => some (.ptr id (o + n * sz), H)
      | .ro l o => some (.ro l (o + n * sz), H)
      | _ => none else none
  | .idx x i => match idxNat (evO cx e i), evO cx e x with
    | some n, .d (.str s) => (s[n]?).map fun b => (.d (.int .u8 b.toNat), H)
    | _, _ => none
  | .slcs x lo hi => match evO cx e x, bound cx e 0 lo with
    | .d (.str s), some l => match bound cx e s.length hi with
      | some h => if l ≤ h ∧ h ≤ s.length then some (.d (.str ((s.take h).drop l)), H) else none
      | none => none
    | _, _ => none
  | .slc sz x lo hi => match lsize H (evO cx e x), bound cx e 0 lo with
    | some s, some l => match bound cx e s.length hi with
      | some h => if l ≤ h ∧ h ≤ s.length ∧ (lo.isNone || s.all (fun y => y.cells.length == sz)) = true then some (.d (.sl ((s.take h).drop l)), H) else none
      | none => none
    | _, _ => none
  | .ext x i => match evO cx e x with
    | .tup l => (l[i]?).map fun v => (v, H)
    | _ => none
  | .call f args => orc f (args.map fun x => toArg H (evO cx e x)) H
  | .callv f args => match evO cx e f with
    | .fn f c => orc f (args.map (fun x => toArg H (evO cx e x)) ++ c) H
    | _ => none
  | .len str x => match str, evO cx e x with
    | true, .d (.str s) => some (.d (.int .i64 s.length), H)
    | false, v => (lenV v).map fun (n : Nat) => (V.d (.int .i64 (n : Int)), H)
    | _, _ => none
  | .convs x => match evO cx e x with
    | .d (.str s) => some (.d (.str s), H)
    | _ => none
  | .app sz bytes x y => match lsize H (evO cx e y) with
    | none => none
    | some ys => if ys.all (fun y => y.cells.length == sz) ∧ 0 < sz then
      (match evO cx e x with
        | .nile => if ys = [] then some (.nile, H) else if roomy ys.length bytes then some (.row H.length ys.length, H ++ [.row sz ys]) else none
        | .nils => if ys = [] then some (.nils, H) else if roomy ys.length bytes then some (.row H.length ys.length, H ++ [.row sz ys]) else none
        | .row id len => match H[id]? with
          | some (.row sz' l) => if sz' = sz ∧ l.length = len ∧ roomy (len + ys.length) bytes then some (.row id (len + ys.length), H.set id (.row sz (l ++ ys))) else none
          | _ => none
        | _ => none) else none
  | .msl sz bytes z n => match evO cx e n with
    | .d (.int _ n) => if 0 ≤ n ∧ roomy n.toNat bytes ∧ z.length = 1 ∧ sz = 1 then some (.arr H.length 0 n.toNat, H ++ [.box (List.replicate n.toNat (z.headD .undef))]) else none
    | _ => none
  | .no => none
  | .mkm => some (.mp H.length, H ++ [.map []])
  | .mput kk m k v => match evO cx e m, evO cx e k, toD H (evO cx e v) with
    | .mp id, .d k, some v => match H[id]? with
      | some (.map l) => if keyOk kk k && keysOk kk l then some (.undef, H.set id (.map (mset k v l))) else none
      | _ => none
    | _, _, _ => none
  | .mget kk ok z m k => match evO cx e m, evO cx e k with
    | .mp id, .d k => match H[id]? with
      | some (.map l) => if keyOk kk k && keysOk kk l then some (mgot ok z (mfind k l), H) else none
      | _ => none
    | _, _ => none
  | .ment kk z m k => match evO cx e m, evO cx e k with
    | .mp id, .d k => match H[id]? with
      | some (.map l) => if keyOk kk k && keysOk kk l then (match mwhere k l with
        | some i => (l[i]?).map fun p => (.tup [.d p.2, .d (.int .i64 i)], H)
        | none => some (.tup [.d z, .d (.int .i64 l.length)], H.set id (.map (l ++ [(k, z)])))) else none
      | _ => none
    | _, _ => none
  | .mest m s v => match evO cx e m, evO cx e s, toD H (evO cx e v) with
    | .mp id, .d (.int _ n), some v => match H[id]? with
      | some (.map l) => if 0 ≤ n ∧ n.toNat < l.length then some (.undef, H.set id (.map (mput n.toNat v l))) else none
      | _ => none
    | _, _, _ => none
  | .mm mx x y => match evO cx e x, evO cx e y with
    | .d (.int k a), .d (.int k' b) => if k = k' then some (.d (.int k (if mx then max a b else min a b)), H) else none
    | _, _ => none
where
  toDs' (cx : Cx) (e : Env) (H : Hp) : List Opd → Option (List D)
    | [] => some []
    | x :: r => match toD H (evO cx e x), toDs' cx e H r with | some y, some ys => some (y :: ys) | _, _ => none
  bound (cx : Cx) (e : Env) (dflt : Nat) : Option Opd → Option Nat
    | none => some dflt
    | some x => idxNat (evO cx e x)

structure St where
  e : Env
  h : Hp
  b : Nat

def putE (dst : Option Nat) (v : V) (e : Env) : Env := match dst with | some d => (d, v) :: e | none => e

def lay (dst : Option Nat) (e : Env) (b : Nat) (r : Option (V × Hp)) : Option St := r.map fun x => ⟨putE dst x.1 e, x.2, b⟩

def grd (v : V) (b : Bool) (dst : Option Nat) (s : St) (r : Option (V × Hp)) : Option St :=
  match v with
  | .d (.bool t) => if t = b then lay dst s.e s.b r else some ⟨putE dst (.tup []) s.e, s.h, s.b⟩
  | .tup [] => some ⟨putE dst (.tup []) s.e, s.h, s.b⟩
  | _ => none

def evOper (cx : Cx) (orc : Orc) (o : VOper) (s : St) : Option St :=
  match o.guard with
  | none => lay o.dst s.e s.b (evOp cx orc s.b s.e s.h o.op)
  | some (g, b) => grd (getE s.e g) b o.dst s (evOp cx orc s.b s.e s.h o.op)

def evOps (cx : Cx) (orc : Orc) : List VOper → St → Option St
  | [], s => some s
  | o :: r, s => (evOper cx orc o s).bind (evOps cx orc r)

def newOk (n : Nat) : Hp → Bool
  | [] => true
  | .box c :: l => undL n c && newOk n l
  | _ :: l => newOk n l

open Classical in
noncomputable def grew (h h' : Hp) : Bool := decide (∃ l, h' = h ++ l) && newOk h'.length (h'.drop h.length)

def dstOk (d : Option Nat) (s : St) : Bool := match d with | some d => (getE s.e d).und s.h.length | none => true

noncomputable def evDraw (cx : Cx) (orc : Orc) : Nat → List VOper → St → Option St
  | _, [], s => some s
  | 0, r, s => evOps cx orc r s
  | m + 1, o :: r, s => (evOper cx orc o s).bind fun s' => if (grew s.h s'.h && dstOk o.dst s') = true then evDraw cx orc m r s' else none

end Go.Vm
namespace Go.Vm

inductive VFun where
  | code (f : VFn)
  | prim (F : List V → Hp → Option (V × Hp))

structure Pg extends Cx where
  tbl : Nat → Option VFun

abbrev Lp := List Nat → VCode → St → Option (Ex × St)

def sq (r : Option (Ex × St)) (k : St → Option (Ex × St)) : Option (Ex × St) :=
  match r with
  | some (.nrm, s) => k s
  | some (.exit i, s) => some (.exit i, s)
  | some (.ret, s) => some (.ret, s)
  | none => none

noncomputable def evC (cx : Cx) (orc : Orc) (lp : Lp) : VCode → St → Option (Ex × St)
  | .skip, s => some (.nrm, s)
  | .reg ops, s => (evOps cx orc ops s).map fun s => (.nrm, s)
  | .draw m ops, s => (evDraw cx orc m ops s).map fun s => (.nrm, s)
  | .seq a b, s => sq (evC cx orc lp a s) fun s' => evC cx orc lp b s'
  | .cond c a b, s => match evO cx s.e c with
    | .d (.bool t) => if t then evC cx orc lp a s else evC cx orc lp b s
    | _ => none
  | .block id b, s => match evC cx orc lp b s with
    | some (.exit i, s') => if i = id then some (.nrm, s') else some (.exit i, s')
    | r => r
  | .scope b, s => evC cx orc lp b s
  | .loop ks b, s => match evC cx orc lp b ⟨keepE ks s.e, s.h, s.h.length⟩ with
    | some (.nrm, s') => lp ks b ⟨cut s.h.length (keepE ks s'.e), s'.h.take s.h.length, s.b⟩
    | some (x, s') => some (x, ⟨s'.e, s'.h, s.b⟩)
    | none => none
  | .exit i, s => some (.exit i, s)
  | .ret, s => some (.ret, s)
  | .newrow sz t, s => match getE s.e t with
    | .nils => if 0 < sz then some (.nrm, ⟨(t, .row s.h.length 0) :: s.e, s.h ++ [.row sz []], s.b⟩) else none
    | _ => none
  | .bindrow sz t off, s => match getE s.e t with
    | .ptr id o => match s.h[id]? with
      | some (.box c) => match c[o + off]? with
        | some .nils => if s.b ≤ id ∧ 0 < sz then some (.nrm, ⟨s.e, s.h.set id (.box (c.set (o + off) (.row s.h.length 0))) ++ [.row sz []], s.b⟩) else none
        | _ => none
      | _ => none
    | _ => none
  | .mkrow sz, s => if 0 < sz then some (.nrm, ⟨s.e, s.h ++ [.row sz []], s.b⟩) else none
  | .bindto t off k, s => match getE s.e t with
    | .ptr id o => match s.h[id]? with
      | some (.box c) => match c[o + off]?, s.h[id - k]? with
        | some .nils, some (.row _ []) => if 0 < k ∧ k ≤ id ∧ s.b ≤ id - k then some (.nrm, ⟨s.e, s.h.set id (.box (c.set (o + off) (.row (id - k) 0))), s.b⟩) else none
        | _, _ => none
      | _ => none
    | _ => none
  | .freeze t, s => match getE s.e t with
    | .arr id _ _ => match s.h[id]? with
      | some (.box c) => match allD c with
        | some ds => some (.nrm, ⟨s.e, s.h.set id (.frz ds), s.b⟩)
        | none => none
      | _ => none
    | .row id len => match s.h[id]? with
      | some (.row _ l) => if l.length = len then some (.nrm, ⟨(t, .d (.sl l)) :: s.e, s.h, s.b⟩) else none
      | _ => none
    | _ => none

def resV (e : Env) (h : Hp) : VRes → Option V
  | .tmp t => some (getE e t)
  | .cell t n => loadV h n (getE e t)

def resVs (e : Env) (h : Hp) : List VRes → Option (List V)
  | [] => some []
  | r :: rs => match resV e h r, resVs e h rs with | some v, some vs => some (v :: vs) | _, _ => none

def oneOf : List V → V
  | [v] => v
  | vs => .tup vs

def enterE (args : List V) : Env := (List.range args.length).map fun i => (i, args.getD i .undef)

def leave (vf : VFn) (h0 : Nat) (s : St) : Option (V × Hp) :=
  match resVs s.e s.h vf.res with
  | none => none
  | some vs =>
    if vf.keep then some (oneOf vs, s.h)
    else let ds := vs.map (toArg s.h); if undL h0 ds then some (oneOf ds, s.h.take h0) else none

def bare (t : Bool) (h : Hp) (k : Hp → Option (V × Hp)) : Option (V × Hp) :=
  match t with
  | true => (k []).map fun r => (r.1, h)
  | false => k h

noncomputable def stepF (pg : Pg) (orc : Orc) (lp : Lp) (f : Nat) (args : List V) (h : Hp) : Option (V × Hp) :=
  match pg.tbl f with
  | none => none
  | some (.prim F) => F args h
  | some (.code vf) => if args.length = vf.np then
      bare (undL 0 args && !vf.keep) h fun h => match evC pg.toCx orc lp vf.body ⟨enterE args, h, h.length⟩ with
      | some (.nrm, s) | some (.ret, s) => leave vf h.length s
      | _ => none
    else none

noncomputable def atN (pg : Pg) : Nat → Orc × Lp
  | 0 => (fun _ _ _ => none, fun _ _ _ => none)
  | n + 1 => (stepF pg (atN pg n).1 (atN pg n).2, fun ks b s => evC pg.toCx (atN pg n).1 (atN pg n).2 (.loop ks b) s)

noncomputable def fnAt (pg : Pg) (n : Nat) : Orc := (atN pg n).1
noncomputable def lpAt (pg : Pg) (n : Nat) : Lp := (atN pg n).2

theorem fnAt_zero (pg : Pg) (f : Nat) (a : List V) (h : Hp) : fnAt pg 0 f a h = none := rfl
theorem fnAt_succ (pg : Pg) (n f : Nat) (a : List V) (h : Hp) : fnAt pg (n + 1) f a h = stepF pg (fnAt pg n) (lpAt pg n) f a h := rfl
theorem lpAt_zero (pg : Pg) (k : List Nat) (b : VCode) (s : St) : lpAt pg 0 k b s = none := rfl
theorem lpAt_succ (pg : Pg) (n : Nat) (k : List Nat) (b : VCode) (s : St) : lpAt pg (n + 1) k b s = evC pg.toCx (fnAt pg n) (lpAt pg n) (.loop k b) s := rfl

end Go.Vm
namespace Go.Vm

def OLe (o o' : Orc) : Prop := ∀ f a h r, o f a h = some r → o' f a h = some r
def LLe (l l' : Lp) : Prop := ∀ k b s r, l k b s = some r → l' k b s = some r

theorem evOp_mono {cx : Cx} {o o' : Orc} (ho : OLe o o') {b : Nat} {e : Env} {H : Hp} {op : VOp} {r : V × Hp} (h : evOp cx o b e H op = some r) : evOp cx o' b e H op = some r := by
  cases op with
  | call f args => exact ho _ _ _ _ h
  | callv f args =>
    simp only [evOp] at h ⊢
    split at h
    · exact ho _ _ _ _ h
    · cases h
  | _ => exact h

theorem lay_le {d : Option Nat} {e : Env} {b : Nat} {x y : Option (V × Hp)} {r : St} (h : ∀ q, x = some q → y = some q) (hr : lay d e b x = some r) : lay d e b y = some r := by
  cases x with
  | none => cases hr
  | some q => rw [h q rfl]; exact hr

theorem grd_le {v : V} {b : Bool} {d : Option Nat} {s : St} {x y : Option (V × Hp)} {r : St} (h : ∀ q, x = some q → y = some q) (hr : grd v b d s x = some r) : grd v b d s y = some r := by
  unfold grd at hr ⊢
  split at hr
  · split at hr
    · rename_i hb; exact (if_pos hb).trans (lay_le h hr)
    · rename_i hb; exact (if_neg hb).trans hr
  · exact hr
  · cases hr

theorem evOper_mono {cx : Cx} {o o' : Orc} (ho : OLe o o') {x : VOper} {s r : St} (h : evOper cx o x s = some r) : evOper cx o' x s = some r := by
  unfold evOper at h ⊢
  split at h
  · exact lay_le (fun q hq => evOp_mono ho hq) h
  · exact grd_le (fun q hq => evOp_mono ho hq) h

theorem evOps_mono {cx : Cx} {o o' : Orc} (ho : OLe o o') : ∀ {ops : List VOper} {s r : St}, evOps cx o ops s = some r → evOps cx o' ops s = some r
  | [], _, _, h => h
  | x :: xs, s, r, h => by
    simp only [evOps] at h ⊢
    cases hx : evOper cx o x s with
    | none => rw [hx] at h; cases h
    | some q => rw [hx] at h; rw [evOper_mono ho hx]; exact evOps_mono ho h

theorem evDraw_mono {cx : Cx} {o o' : Orc} (ho : OLe o o') : ∀ {m : Nat} {ops : List VOper} {s r : St}, evDraw cx o m ops s = some r → evDraw cx o' m ops s = some r
  | 0, [], _, _, h => h
  | _ + 1, [], _, _, h => h
  | 0, x :: xs, s, r, h => evOps_mono ho h
  | m + 1, x :: xs, s, r, h => by
    simp only [evDraw] at h ⊢
    cases hx : evOper cx o x s with
    | none => rw [hx] at h; cases h
    | some q =>
      rw [hx] at h; rw [evOper_mono ho hx]
      simp only [Option.bind_some] at h ⊢
      split at h
      · rename_i hg; rw [if_pos hg]; exact evDraw_mono ho h
      · cases h

theorem evC_mono {cx : Cx} {o o' : Orc} (ho : OLe o o') {l l' : Lp} (hl : LLe l l') : ∀ {c : VCode} {s : St} {r : Ex × St}, evC cx o l c s = some r → evC cx o' l' c s = some r := by
  intro c
  induction c with
  | skip => intro s r h; exact h
  | reg ops =>
    intro s r h; simp only [evC] at h ⊢
    cases hx : evOps cx o ops s with
    | none => rw [hx] at h; cases h
    | some q => rw [hx] at h; rw [evOps_mono ho hx]; exact h
  | draw m ops =>
    intro s r h; simp only [evC] at h ⊢
    cases hx : evDraw cx o m ops s with
    | none => rw [hx] at h; cases h
    | some q => rw [hx] at h; rw [evDraw_mono ho hx]; exact h
  | seq a b iha ihb =>
    intro s r h; simp only [evC] at h ⊢
    cases hx : evC cx o l a s with
    | none => rw [hx] at h; cases h
    | some q =>
      obtain ⟨x, s'⟩ := q
      rw [hx] at h; rw [iha hx]
      cases x <;> first | exact ihb h | exact h
  | cond c a b iha ihb =>
    intro s r h; simp only [evC] at h ⊢
    split at h
    · split at h
      · rename_i hb; rw [if_pos hb]; exact iha h
      · rename_i hb; rw [if_neg hb]; exact ihb h
    · cases h
  | block id b ih =>
    intro s r h; simp only [evC] at h ⊢
    cases hx : evC cx o l b s with
    | none => rw [hx] at h; cases h
    | some q => rw [hx] at h; rw [ih hx]; exact h
  | scope b ih => intro s r h; simp only [evC] at h ⊢; exact ih h
  | loop k b ih =>
    intro s r h; simp only [evC] at h ⊢
    cases hx : evC cx o l b ⟨keepE k s.e, s.h, s.h.length⟩ with
    | none => rw [hx] at h; cases h
    | some q =>
      obtain ⟨x, s'⟩ := q
      rw [hx] at h; rw [ih hx]
      cases x <;> simp only at h ⊢ <;> first | exact hl _ _ _ _ h | exact h
  | exit i => intro s r h; exact h
  | ret => intro s r h; exact h
  | newrow a b => intro s r h; exact h
  | bindrow a b c => intro s r h; exact h
  | mkrow a => intro s r h; exact h
  | bindto a b c => intro s r h; exact h
  | freeze a => intro s r h; exact h

theorem bare_le {t : Bool} {h : Hp} {k k' : Hp → Option (V × Hp)} {r : V × Hp} (hk : ∀ h r, k h = some r → k' h = some r) (hr : bare t h k = some r) : bare t h k' = some r := by
  cases t with
  | true =>
    simp only [bare] at hr ⊢
    obtain ⟨q, hq, rfl⟩ := Option.map_eq_some_iff.1 hr
    rw [hk _ _ hq]; rfl
  | false => exact hk _ _ hr

theorem at_mono (pg : Pg) : ∀ n, OLe (fnAt pg n) (fnAt pg (n + 1)) ∧ LLe (lpAt pg n) (lpAt pg (n + 1))
  | 0 => ⟨fun _ _ _ _ h => (nomatch ((fnAt_zero pg _ _ _).symm.trans h)), fun _ _ _ _ h => (nomatch ((lpAt_zero pg _ _ _).symm.trans h))⟩
  | n + 1 => by
    obtain ⟨h1, h2⟩ := at_mono pg n
    refine ⟨fun f a h r hr => ?_, fun k b s r hr => ?_⟩
    · rw [fnAt_succ, stepF] at hr ⊢
      split at hr
      · cases hr
      · exact hr
      · rename_i vf ht
        split at hr
        · rename_i hl; rw [if_pos hl]
          refine bare_le (fun h r hr => ?_) hr
          cases hx : evC pg.toCx (fnAt pg n) (lpAt pg n) vf.body ⟨enterE a, h, h.length⟩ with
          | none => rw [hx] at hr; cases hr
          | some q => rw [hx] at hr; rw [evC_mono h1 h2 hx]; exact hr
        · cases hr
    · rw [lpAt_succ] at hr ⊢; exact evC_mono h1 h2 hr

theorem fn_le (pg : Pg) {n m : Nat} (h : n ≤ m) : OLe (fnAt pg n) (fnAt pg m) := by
  induction m with
  | zero => obtain rfl : n = 0 := by omega
            exact fun _ _ _ _ h => h
  | succ m ih =>
    by_cases hm : n = m + 1
    · subst hm; exact fun _ _ _ _ h => h
    · exact fun f a hh r hr => (at_mono pg m).1 _ _ _ _ (ih (by omega) _ _ _ _ hr)

theorem lp_le (pg : Pg) {n m : Nat} (h : n ≤ m) : LLe (lpAt pg n) (lpAt pg m) := by
  induction m with
  | zero => obtain rfl : n = 0 := by omega
            exact fun _ _ _ _ h => h
  | succ m ih =>
    by_cases hm : n = m + 1
    · subst hm; exact fun _ _ _ _ h => h
    · exact fun f a hh r hr => (at_mono pg m).2 _ _ _ _ (ih (by omega) _ _ _ _ hr)

open Classical in
@[irreducible] noncomputable def evF (pg : Pg) : Orc := fun f a h => if x : ∃ r, ∃ n, fnAt pg n f a h = some r then some x.choose else none

open Classical in
@[irreducible] noncomputable def evL (pg : Pg) : Lp := fun k b s => if x : ∃ r, ∃ n, lpAt pg n k b s = some r then some x.choose else none

theorem evF_iff {pg : Pg} {f : Nat} {a : List V} {h : Hp} {r : V × Hp} : evF pg f a h = some r ↔ ∃ n, fnAt pg n f a h = some r := by
  unfold evF
  constructor
  · intro hx
    split at hx
    · rename_i x; cases hx; exact x.choose_spec
    · cases hx
  · rintro ⟨n, hn⟩
    have x : ∃ r, ∃ n, fnAt pg n f a h = some r := ⟨r, n, hn⟩
    rw [dif_pos x]
    obtain ⟨m, hm⟩ := x.choose_spec
    have e1 := fn_le pg (Nat.le_max_left n m) _ _ _ _ hn
    have e2 := fn_le pg (Nat.le_max_right n m) _ _ _ _ hm
    rw [e1] at e2; exact e2.symm

theorem evL_iff {pg : Pg} {k : List Nat} {b : VCode} {s : St} {r : Ex × St} : evL pg k b s = some r ↔ ∃ n, lpAt pg n k b s = some r := by
  unfold evL
  constructor
  · intro hx
    split at hx
    · rename_i x; cases hx; exact x.choose_spec
    · cases hx
  · rintro ⟨n, hn⟩
    have x : ∃ r, ∃ n, lpAt pg n k b s = some r := ⟨r, n, hn⟩
    rw [dif_pos x]
    obtain ⟨m, hm⟩ := x.choose_spec
    have e1 := lp_le pg (Nat.le_max_left n m) _ _ _ _ hn
    have e2 := lp_le pg (Nat.le_max_right n m) _ _ _ _ hm
    rw [e1] at e2; exact e2.symm

theorem fn_evF (pg : Pg) (n : Nat) : OLe (fnAt pg n) (evF pg) := fun _ _ _ _ h => evF_iff.2 ⟨n, h⟩
theorem lp_evL (pg : Pg) (n : Nat) : LLe (lpAt pg n) (evL pg) := fun _ _ _ _ h => evL_iff.2 ⟨n, h⟩

section fin
variable {pg : Pg}
theorem evOp_fin {b : Nat} {e : Env} {H : Hp} {op : VOp} {r : V × Hp} (h : evOp pg.toCx (evF pg) b e H op = some r) : ∃ n, evOp pg.toCx (fnAt pg n) b e H op = some r := by
  cases op with
  | call f args => exact evF_iff.1 h
  | callv f args =>
    simp only [evOp] at h ⊢
    split at h
    · exact evF_iff.1 h
    · cases h
  | _ => exact ⟨0, h⟩

theorem evOper_fin {x : VOper} {s r : St} (h : evOper pg.toCx (evF pg) x s = some r) : ∃ n, evOper pg.toCx (fnAt pg n) x s = some r := by
  unfold evOper at h ⊢
  cases hx : evOp pg.toCx (evF pg) s.b s.e s.h x.op with
  | none =>
    rw [hx] at h
    refine ⟨0, ?_⟩
    split at h
    · cases h
    · exact grd_le (fun q hq => by cases hq) h
  | some q =>
    obtain ⟨n, hn⟩ := evOp_fin hx
    rw [hx] at h
    exact ⟨n, by rw [hn]; exact h⟩

theorem evOps_fin : ∀ {ops : List VOper} {s r : St}, evOps pg.toCx (evF pg) ops s = some r → ∃ n, evOps pg.toCx (fnAt pg n) ops s = some r
  | [], _, _, h => ⟨0, h⟩
  | x :: xs, s, r, h => by
    simp only [evOps] at h
    cases hx : evOper pg.toCx (evF pg) x s with
    | none => rw [hx] at h; cases h
    | some q =>
      rw [hx] at h
      obtain ⟨n, hn⟩ := evOper_fin hx
      obtain ⟨m, hm⟩ := evOps_fin (ops := xs) h
      exact ⟨max n m, by simp only [evOps]; rw [evOper_mono (fn_le pg (Nat.le_max_left n m)) hn]; exact evOps_mono (fn_le pg (Nat.le_max_right n m)) hm⟩

theorem evDraw_fin : ∀ {k : Nat} {ops : List VOper} {s r : St}, evDraw pg.toCx (evF pg) k ops s = some r → ∃ n, evDraw pg.toCx (fnAt pg n) k ops s = some r
  | 0, [], _, _, h => ⟨0, h⟩
  | _ + 1, [], _, _, h => ⟨0, h⟩
  | 0, x :: xs, s, r, h => evOps_fin h
  | k + 1, x :: xs, s, r, h => by
    simp only [evDraw] at h
    cases hx : evOper pg.toCx (evF pg) x s with
    | none => rw [hx] at h; cases h
    | some q =>
      rw [hx] at h
      obtain ⟨n, hn⟩ := evOper_fin hx
      simp only [Option.bind_some] at h
      split at h
      · rename_i hg
        obtain ⟨m, hm⟩ := evDraw_fin (ops := xs) h
        refine ⟨max n m, ?_⟩
        simp only [evDraw]; rw [evOper_mono (fn_le pg (Nat.le_max_left n m)) hn]
        simp only [Option.bind_some, if_pos hg]
        exact evDraw_mono (fn_le pg (Nat.le_max_right n m)) hm
      · cases h

theorem evC_fin : ∀ {c : VCode} {s : St} {r : Ex × St}, evC pg.toCx (evF pg) (evL pg) c s = some r → ∃ n, evC pg.toCx (fnAt pg n) (lpAt pg n) c s = some r := by
  intro c
  induction c with
  | skip => intro s r h; exact ⟨0, h⟩
  | reg ops =>
    intro s r h; simp only [evC] at h ⊢
    cases hx : evOps pg.toCx (evF pg) ops s with
    | none => rw [hx] at h; cases h
    | some q => rw [hx] at h; obtain ⟨n, hn⟩ := evOps_fin hx; exact ⟨n, by rw [hn]; exact h⟩
  | draw m ops =>
    intro s r h; simp only [evC] at h ⊢
    cases hx : evDraw pg.toCx (evF pg) m ops s with
    | none => rw [hx] at h; cases h
    | some q => rw [hx] at h; obtain ⟨n, hn⟩ := evDraw_fin hx; exact ⟨n, by rw [hn]; exact h⟩
  | seq a b iha ihb =>
    intro s r h; simp only [evC] at h ⊢
    cases hx : evC pg.toCx (evF pg) (evL pg) a s with
    | none => rw [hx] at h; cases h
    | some q =>
      obtain ⟨x, s'⟩ := q
      rw [hx] at h
      obtain ⟨n, hn⟩ := iha hx
      cases x with
      | nrm =>
        obtain ⟨m, hm⟩ := ihb h
        refine ⟨max n m, ?_⟩
        rw [evC_mono (fn_le pg (Nat.le_max_left n m)) (lp_le pg (Nat.le_max_left n m)) hn]
        exact evC_mono (fn_le pg (Nat.le_max_right n m)) (lp_le pg (Nat.le_max_right n m)) hm
      | exit i => exact ⟨n, by rw [hn]; exact h⟩
      | ret => exact ⟨n, by rw [hn]; exact h⟩
  | cond c a b iha ihb =>
    intro s r h; simp only [evC] at h ⊢
    split at h
    · split at h
      · rename_i hb; simp only [if_pos hb]; exact iha h
      · rename_i hb; simp only [if_neg hb]; exact ihb h
    · cases h
  | block id b ih =>
    intro s r h; simp only [evC] at h ⊢
    cases hx : evC pg.toCx (evF pg) (evL pg) b s with
    | none => rw [hx] at h; cases h
    | some q => rw [hx] at h; obtain ⟨n, hn⟩ := ih hx; exact ⟨n, by rw [hn]; exact h⟩
  | scope b ih => intro s r h; simp only [evC] at h ⊢; exact ih h
  | loop k b ih =>
    intro s r h; simp only [evC] at h ⊢
    cases hx : evC pg.toCx (evF pg) (evL pg) b ⟨keepE k s.e, s.h, s.h.length⟩ with
    | none => rw [hx] at h; cases h
    | some q =>
      obtain ⟨x, s'⟩ := q
      rw [hx] at h
      obtain ⟨n, hn⟩ := ih hx
      cases x with
      | nrm =>
        obtain ⟨m, hm⟩ := evL_iff.1 h
        refine ⟨max n m, ?_⟩
        rw [evC_mono (fn_le pg (Nat.le_max_left n m)) (lp_le pg (Nat.le_max_left n m)) hn]
        exact lp_le pg (Nat.le_max_right n m) _ _ _ _ hm
      | exit i => exact ⟨n, by rw [hn]; exact h⟩
      | ret => exact ⟨n, by rw [hn]; exact h⟩
  | exit i => intro s r h; exact ⟨0, h⟩
  | ret => intro s r h; exact ⟨0, h⟩
  | newrow a b => intro s r h; exact ⟨0, h⟩
  | bindrow a b c => intro s r h; exact ⟨0, h⟩
  | mkrow a => intro s r h; exact ⟨0, h⟩
  | bindto a b c => intro s r h; exact ⟨0, h⟩
  | freeze a => intro s r h; exact ⟨0, h⟩
end fin

noncomputable def ev (pg : Pg) (c : VCode) (s : St) : Option (Ex × St) := evC pg.toCx (evF pg) (evL pg) c s

theorem opt_eq {α : Type} {a b : Option α} (h1 : ∀ r, a = some r → b = some r) (h2 : ∀ r, b = some r → a = some r) : a = b := by
  cases ha : a with
  | some r => exact (h1 r ha).symm
  | none =>
    cases hb : b with
    | none => rfl
    | some r => rw [h2 r hb] at ha; cases ha

theorem evL_eq (pg : Pg) (k : List Nat) (b : VCode) (s : St) : evL pg k b s = ev pg (.loop k b) s := by
  refine opt_eq (fun r h => ?_) (fun r h => ?_)
  · obtain ⟨n, hn⟩ := evL_iff.1 h
    cases n with
    | zero => rw [lpAt_zero] at hn; cases hn
    | succ n => rw [lpAt_succ] at hn; exact evC_mono (fn_evF pg n) (lp_evL pg n) hn
  · obtain ⟨n, hn⟩ := evC_fin h
    exact evL_iff.2 ⟨n + 1, by rw [lpAt_succ]; exact hn⟩

theorem evF_prim {pg : Pg} {f : Nat} {F : List V → Hp → Option (V × Hp)} (ht : pg.tbl f = some (.prim F)) (a : List V) (h : Hp) : evF pg f a h = F a h := by
  refine opt_eq (fun r hr => ?_) (fun r hr => ?_)
  · obtain ⟨n, hn⟩ := evF_iff.1 hr
    cases n with
    | zero => rw [fnAt_zero] at hn; cases hn
    | succ n => rw [fnAt_succ, stepF, ht] at hn; exact hn
  · exact evF_iff.2 ⟨1, by rw [fnAt_succ, stepF, ht]; exact hr⟩

noncomputable def bodyF (pg : Pg) (vf : VFn) (a : List V) (h : Hp) : Option (V × Hp) :=
  match ev pg vf.body ⟨enterE a, h, h.length⟩ with
  | some (.nrm, s) | some (.ret, s) => leave vf h.length s
  | _ => none

theorem evF_code {pg : Pg} {f : Nat} {vf : VFn} (ht : pg.tbl f = some (.code vf)) (a : List V) (h : Hp) :
    evF pg f a h = if a.length = vf.np then bare (undL 0 a && !vf.keep) h (bodyF pg vf a) else none := by
  refine opt_eq (fun r hr => ?_) (fun r hr => ?_)
  · obtain ⟨n, hn⟩ := evF_iff.1 hr
    cases n with
    | zero => rw [fnAt_zero] at hn; cases hn
    | succ n =>
      rw [fnAt_succ, stepF, ht] at hn
      simp only at hn
      split at hn
      · rename_i hl; rw [if_pos hl]
        refine bare_le (fun h r hn => ?_) hn
        cases hx : evC pg.toCx (fnAt pg n) (lpAt pg n) vf.body ⟨enterE a, h, h.length⟩ with
        | none => rw [hx] at hn; cases hn
        | some q => rw [hx] at hn; rw [bodyF, ev, evC_mono (fn_evF pg n) (lp_evL pg n) hx]; exact hn
      · cases hn
  · split at hr
    · rename_i hl
      have key : ∀ h r, bodyF pg vf a h = some r → ∃ n, (match evC pg.toCx (fnAt pg n) (lpAt pg n) vf.body ⟨enterE a, h, h.length⟩ with
          | some (.nrm, s) | some (.ret, s) => leave vf h.length s
          | _ => none) = some r := by
        intro h r hr
        rw [bodyF] at hr
        cases hx : ev pg vf.body ⟨enterE a, h, h.length⟩ with
        | none => rw [hx] at hr; cases hr
        | some q =>
          rw [hx] at hr
          obtain ⟨n, hn⟩ := evC_fin hx
          exact ⟨n, by rw [hn]; exact hr⟩
      cases ht' : (undL 0 a && !vf.keep) with
      | true =>
        rw [ht'] at hr
        simp only [bare] at hr
        obtain ⟨q, hq, rfl⟩ := Option.map_eq_some_iff.1 hr
        obtain ⟨n, hn⟩ := key _ _ hq
        refine evF_iff.2 ⟨n + 1, ?_⟩
        rw [fnAt_succ, stepF, ht]
        simp only [if_pos hl, ht', bare]
        exact congrArg (Option.map fun r => (r.1, h)) hn
      | false =>
        rw [ht'] at hr
        simp only [bare] at hr
        obtain ⟨n, hn⟩ := key _ _ hr
        refine evF_iff.2 ⟨n + 1, ?_⟩
        rw [fnAt_succ, stepF, ht]
        simp only [if_pos hl, ht', bare]
        exact hn
    · cases hr

end Go.Vm
