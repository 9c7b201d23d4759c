/- A small machine of values for a part of the model's code: its values, its heap, its evaluator with fuel. Nothing here speaks of a program. -/
import GoSem.Dispatch
namespace Go.Vm

/-- Data: what leads to no memory that may change. -/
inductive D where
  | bool (b : Bool)
  | int (k : IntKind) (n : Int)
  | str (s : List UInt8)
  | sl (l : List D)
  | agg (l : List D)
  deriving Inhabited

/-- Values: data, and what leads to the heap. -/
inductive V where
  | d (x : D)
  | agg (l : List V)
  | tup (l : List V)
  | nils
  | row (id len : Nat)
  | arr (id off len : Nat)
  | ptr (id off : Nat)
  | ro (l : List D) (off : Nat)
  | fn (f : Nat) (c : List V)
  | nul
  | nof
  | undef
  deriving Inhabited

/-- What lies in the heap: a variable's cells; cells that no longer change; a slice that grows at its end alone. -/
inductive Ob where
  | box (c : List V)
  | frz (c : List D)
  | row (sz : Nat) (l : List D)
  deriving Inhabited

inductive Opd where
  | t (i : Nat)
  | c (v : V)
  | g (i : Nat)
  | f (i : Nat)
  deriving Inhabited

inductive VOp where
  | mv (x : Opd)
  | pick (c a b : Opd)
  | zbox (z : List V)
  | box (x : Opd)
  | build (z : List V) (ps : List (Nat × Nat × Opd))
  | bslice (sz len : Nat) (ps : List Opd)
  | ld (n : Option Nat) (x : Opd)
  | st (n : Nat) (a x : Opd)
  | nilck (x : Opd)
  | bin (op : BinOp) (x y : Opd)
  | eqa (neg : Bool) (ks : List Nat) (x y : Opd)
  | eqb (neg : Bool) (x y : Opd)
  | un (op : UnOp) (x : Opd)
  | conv (k : IntKind) (x : Opd)
  | mkfn (f : Nat) (caps : List Opd)
  | fld (off : Nat) (n : Option Nat) (x : Opd)
  | fadr (off : Nat) (x : Opd)
  | iadr (sz : Nat) (x i : Opd)
  | iadra (len sz : Nat) (x i : Opd)
  | idx (x i : Opd)
  | slcs (x : Opd) (lo hi : Option Opd)
  | slc (sz : Nat) (x : Opd) (lo hi : Option Opd)
  | ext (x : Opd) (i : Nat)
  | call (f : Nat) (args : List Opd)
  | callv (f : Opd) (args : List Opd)
  | len (str : Bool) (x : Opd)
  | convs (x : Opd)
  | app (sz bytes : Nat) (x y : Opd)
  | msl (sz bytes : Nat) (z : List V) (n : Opd)
  | mm (max : Bool) (x y : Opd)
  deriving Inhabited

structure VOper where
  dst : Option Nat
  op : VOp
  guard : Option (Nat × Bool) := none
  deriving Inhabited

inductive VCode where
  | skip
  | reg (ops : List VOper)
  | draw (m : Nat) (ops : List VOper)
  | seq (a b : VCode)
  | cond (c : Opd) (a b : VCode)
  | block (id : Nat) (b : VCode)
  | loop (keep : List Nat) (b : VCode)
  | scope (b : VCode)
  | exit (id : Nat)
  | ret
  | newrow (sz slot : Nat)
  | bindrow (sz slot off : Nat)
  | freeze (slot : Nat)
  deriving Inhabited

inductive VRes where
  | tmp (t : Nat)
  | cell (t : Nat) (n : Option Nat)
  deriving Inhabited

structure VFn where
  np : Nat
  nt : Nat
  body : VCode
  res : List VRes
  keep : Bool := false

inductive Ex where
  | nrm
  | exit (id : Nat)
  | ret

abbrev Env := List (Nat × V)
abbrev Hp := List Ob

def D.cells : D → List D
  | .agg l => l
  | x => [x]

def V.cells : V → List V
  | .d (.agg l) => l.map V.d
  | .agg l => l
  | x => [x]

/-- A value that may lie in one cell. -/
def V.one : V → Bool
  | .agg _ | .tup _ | .d (.agg _) | .undef => false
  | _ => true

def D.one : D → Bool
  | .agg _ => false
  | _ => true

def allD : List V → Option (List D)
  | [] => some []
  | .d x :: r => (allD r).map (x :: ·)
  | _ => none

def mkAgg (l : List V) : V := match allD l with | some ds => .d (.agg ds) | none => .agg l

/-- A value as data, seen in a heap. -/
def toD1 (H : Hp) : V → Option D
  | .d x => some x
  | .nils => some (.sl [])
  | .row id len => match H[id]? with | some (.row _ l) => if l.length = len then some (.sl l) else none | _ => none
  | .arr id off len => match H[id]? with | some (.frz c) => if off + len ≤ c.length then some (.sl ((c.drop off).take len)) else none | _ => none
  | _ => none

def toDs (H : Hp) : List V → Option (List D)
  | [] => some []
  | v :: r => match toD1 H v, toDs H r with | some x, some xs => some (x :: xs) | _, _ => none

def toD (H : Hp) : V → Option D
  | .agg l => (toDs H l).map .agg
  | v => toD1 H v

def toArg (H : Hp) (v : V) : V := match toD H v with | some x => .d x | none => v

def getE : Env → Nat → V
  | [], _ => .undef
  | (k, v) :: r, i => if k = i then v else getE r i

def keepE (ks : List Nat) (e : Env) : Env := ks.map fun k => (k, getE e k)

mutual
/-- Everything that a value leads to stands below n. -/
def V.und (n : Nat) : V → Bool
  | .row id _ => decide (id < n)
  | .arr id _ _ => decide (id < n)
  | .ptr id _ => decide (id < n)
  | .agg l => undL n l
  | .tup l => undL n l
  | .fn _ l => undL n l
  | _ => true
def undL (n : Nat) : List V → Bool
  | [] => true
  | v :: r => V.und n v && undL n r
end

def cut (n : Nat) (e : Env) : Env := e.map fun (k, v) => (k, if v.und n then v else .undef)

def bitsI (op : BinOp) (k : IntKind) (x y : Int) : Option Int :=
  let a := BitVec.ofInt k.bits x
  let b := BitVec.ofInt k.bits y
  match op with
  | .and => some (k.wrap (a &&& b).toNat)
  | .or => some (k.wrap (a ||| b).toNat)
  | .xor => some (k.wrap (a ^^^ b).toNat)
  | .andNot => some (k.wrap (a &&& ~~~b).toNat)
  | _ => none

def binV (op : BinOp) : V → V → Option V
  | .d (.int k a), .d (.int k' b) =>
    match op with
    | .shl => if 0 ≤ b then some (.d (.int k (k.wrap (a * 2 ^ (min b.toNat k.bits))))) else none
    | .shr => if 0 ≤ b then some (.d (.int k (a.fdiv (2 ^ (min b.toNat k.bits))))) else none
    | .add => if k = k' then some (.d (.int k (k.wrap (a + b)))) else none
    | .sub => if k = k' then some (.d (.int k (k.wrap (a - b)))) else none
    | .mul => if k = k' then some (.d (.int k (k.wrap (a * b)))) else none
    | .quo => if k = k' ∧ b ≠ 0 then some (.d (.int k (k.wrap (a.tdiv b)))) else none
    | .rem => if k = k' ∧ b ≠ 0 then some (.d (.int k (a.tmod b))) else none
    | .and => if k = k' then (bitsI .and k a b).map fun n => .d (.int k n) else none
    | .or => if k = k' then (bitsI .or k a b).map fun n => .d (.int k n) else none
    | .xor => if k = k' then (bitsI .xor k a b).map fun n => .d (.int k n) else none
    | .andNot => if k = k' then (bitsI .andNot k a b).map fun n => .d (.int k n) else none
    | .eql => if k = k' then some (.d (.bool (a == b))) else none
    | .neq => if k = k' then some (.d (.bool (a != b))) else none
    | .lss => if k = k' then some (.d (.bool (decide (a < b)))) else none
    | .leq => if k = k' then some (.d (.bool (decide (a ≤ b)))) else none
    | .gtr => if k = k' then some (.d (.bool (decide (b < a)))) else none
    | .geq => if k = k' then some (.d (.bool (decide (b ≤ a)))) else none
  | .d (.str a), .d (.str b) =>
    match op with
    | .add => if a.length + b.length ≤ 9223372036854775807 then some (.d (.str (a ++ b))) else none
    | .eql => some (.d (.bool (a == b)))
    | .neq => some (.d (.bool !(a == b)))
    | _ => none
  | _, _ => none

def eq1 : D → D → Bool
  | .bool a, .bool b => a == b
  | .int _ a, .int _ b => a == b
  | .str a, .str b => a == b
  | _, _ => false

def eqL : List D → List D → Bool
  | [], [] => true
  | a :: x, b :: y => eq1 a b && eqL x y
  | _, _ => false

/-- Cells of the kinds that are asked for: truths, numbers, texts. -/
def kindOk : List Nat → List D → List D → Bool
  | [], [], [] => true
  | 0 :: ks, .bool _ :: a, .bool _ :: b => kindOk ks a b
  | 1 :: ks, .int k _ :: a, .int k' _ :: b => k == k' && kindOk ks a b
  | 2 :: ks, .str _ :: a, .str _ :: b => kindOk ks a b
  | _, _, _ => false

def unV (op : UnOp) : V → Option V
  | .d (.int k n) => match op with
    | .neg => some (.d (.int k (k.wrap (0 - n))))
    | _ => none
  | .d (.bool b) => match op with
    | .not => some (.d (.bool !b))
    | _ => none
  | _ => none

def putAt : List V → Nat → List V → List V
  | cs, _, [] => cs
  | [], _, _ => []
  | _ :: cs, 0, v :: vs => v :: putAt cs 0 vs
  | c :: cs, n + 1, vs => c :: putAt cs n vs

def fillV (z : List V) : List (Nat × Nat × V) → Option (List V)
  | [] => some z
  | (off, n, v) :: r => if v.cells.length = n ∧ off + n ≤ z.length then fillV (putAt z off v.cells) r else none

/-- The cells of a block that may be read. -/
def cellsAt (H : Hp) : V → Option (List V × Nat)
  | .ptr id off => match H[id]? with
    | some (.box c) => some (c, off)
    | some (.frz c) => some (c.map V.d, off)
    | _ => none
  | .ro l off => some (l.map V.d, off)
  | _ => none

/-- One cell, or so many behind one name. -/
def partV (n : Option Nat) (c : List V) (off : Nat) : Option V :=
  match n with
  | none => c[off]?
  | some n => if off + n ≤ c.length then some (mkAgg ((c.drop off).take n)) else none

def loadV (H : Hp) (n : Option Nat) (p : V) : Option V :=
  match cellsAt H p with
  | none => none
  | some (c, off) => partV n c off

/-- A store. What is stored into a variable from before 'b' leads to what is older than it. -/
def storeV (b : Nat) (H : Hp) (n : Nat) (p x : V) : Option Hp :=
  match p with
  | .ptr id off => match H[id]? with
    | some (.box c) => if x.cells.length = n ∧ off + n ≤ c.length ∧ x.cells.all V.one ∧ (undL id x.cells || decide (b ≤ id)) then some (H.set id (.box (putAt c off x.cells))) else none
    | _ => none
  | _ => none

def idxNat (v : V) : Option Nat := match v with | .d (.int _ n) => if 0 ≤ n then some n.toNat else none | _ => none

def lenV (v : V) : Option Nat := match v with
  | .d (.sl l) => some l.length
  | .nils => some 0
  | .row _ n => some n
  | .arr _ _ n => some n
  | _ => none

def lsize (H : Hp) (v : V) : Option (List D) := match toD1 H v with | some (.sl l) => some l | _ => none

def roomy (n bytes : Nat) : Prop := n * bytes ≤ 140737488355328 ∧ n ≤ 9223372036854775807
instance (n b : Nat) : Decidable (roomy n b) := inferInstanceAs (Decidable (_ ∧ _))

abbrev Orc := Nat → List V → Hp → Option (V × Hp)

structure Cx where
  gv : Nat → List D

def evO (cx : Cx) (e : Env) : Opd → V
  | .t i => getE e i
  | .c v => v
  | .g i => .ro (cx.gv i) 0
  | .f i => .fn i []

def evOp (cx : Cx) (orc : Orc) (b : Nat) (e : Env) (H : Hp) : VOp → Option (V × Hp)
  | .mv x => some (evO cx e x, H)
  | .pick c a b => match evO cx e c with
    | .d (.bool t) => some (if t then evO cx e a else evO cx e b, H)
    | _ => none
  | .zbox z => some (.ptr H.length 0, H ++ [.box z])
  | .box x => let c := (evO cx e x).cells; if c.all V.one then some (.ptr H.length 0, H ++ [.box c]) else none
  | .build z ps => if ps.all fun p => (evO cx e p.2.2).cells.all V.one then (fillV z (ps.map fun p => (p.1, p.2.1, evO cx e p.2.2))).map fun c => (mkAgg c, H) else none
  | .bslice sz len ps =>
    match toDs' cx e H ps with
    | some l => if l.length = len ∧ l.all (fun x => x.cells.length == sz) ∧ 0 < sz ∧ len * sz ≤ 16777216 then some (.d (.sl l), H) else none
    | none => none
  | .ld n x => (loadV H n (evO cx e x)).map fun v => (v, H)
  | .st n a x => (storeV b H n (evO cx e a) (evO cx e x)).map fun H' => (.undef, H')
  | .nilck x => match evO cx e x with
    | .ptr id off => some (.ptr id off, H)
    | .fn f c => some (.fn f c, H)
    | _ => none
  | .bin op x y => (binV op (evO cx e x) (evO cx e y)).map fun v => (v, H)
  | .eqa neg ks x y => match evO cx e x, evO cx e y with
    | .d (.agg a), .d (.agg b) => if kindOk ks a b then some (.d (.bool (if neg then !eqL a b else eqL a b)), H) else none
    | _, _ => none
  | .eqb neg x y => match evO cx e x, evO cx e y with
    | .d (.bool a), .d (.bool b) => some (.d (.bool (if neg then !(a == b) else a == b)), H)
    | _, _ => none
  | .un op x => (unV op (evO cx e x)).map fun v => (v, H)
  | .conv k x => match evO cx e x with
    | .d (.int _ n) => some (.d (.int k (k.wrap n)), H)
    | _ => none
  | .mkfn f caps => some (.fn f (caps.map (evO cx e)), H)
  | .fld off n x => match evO cx e x with
    | .d (.agg c) => (partV n (c.map V.d) off).map fun v => (v, H)
    | .agg c => (partV n c off).map fun v => (v, H)
    | _ => none
  | .fadr off x => match evO cx e x with
    | .ptr id o => some (.ptr id (o + off), H)
    | .ro l o => some (.ro l (o + off), H)
    | _ => none
  | .iadr sz x i => match idxNat (evO cx e i) with
    | none => none
    | some n => match evO cx e x with
      | .arr id off len => if n < len then some (.ptr id (off + n * sz), H) else none
      | v => match lsize H v with
        | some l => match l[n]? with
          | some y => if y.cells.length = sz then some (.ro y.cells 0, H) else none
          | none => none
        | none => none
  | .iadra len sz x i => match idxNat (evO cx e i) with
    | none => none
    | some n => if n < len then match evO cx e x with
      | .ptr id o => some (.ptr id (o + n * sz), H)
      | .ro l o => some (.ro l (o + n * sz), H)
      | _ => none else none
  | .idx x i => match idxNat (evO cx e i), evO cx e x with
    | some n, .d (.str s) => (s[n]?).map fun b => (.d (.int .u8 b.toNat), H)
    | _, _ => none
  | .slcs x lo hi => match evO cx e x, bound cx e 0 lo with
    | .d (.str s), some l => match bound cx e s.length hi with
      | some h => if l ≤ h ∧ h ≤ s.length then some (.d (.str ((s.take h).drop l)), H) else none
      | none => none
    | _, _ => none
  | .slc sz x lo hi => match lsize H (evO cx e x), bound cx e 0 lo with
    | some s, some l => match bound cx e s.length hi with
      | some h => if l ≤ h ∧ h ≤ s.length ∧ (lo.isNone || s.all (fun y => y.cells.length == sz)) = true then some (.d (.sl ((s.take h).drop l)), H) else none
      | none => none
    | _, _ => none
  | .ext x i => match evO cx e x with
    | .tup l => (l[i]?).map fun v => (v, H)
    | _ => none
  | .call f args => orc f (args.map fun x => toArg H (evO cx e x)) H
  | .callv f args => match evO cx e f with
    | .fn f c => orc f (args.map (fun x => toArg H (evO cx e x)) ++ c) H
    | _ => none
  | .len str x => match str, evO cx e x with
    | true, .d (.str s) => some (.d (.int .i64 s.length), H)
    | false, v => (lenV v).map fun (n : Nat) => (V.d (.int .i64 (n : Int)), H)
    | _, _ => none
  | .convs x => match evO cx e x with
    | .d (.str s) => some (.d (.str s), H)
    | _ => none
  | .app sz bytes x y => match lsize H (evO cx e y) with
    | none => none
    | some ys => if ys.all (fun y => y.cells.length == sz) ∧ 0 < sz then
      (match evO cx e x with
        | .nils => if ys = [] then some (.nils, H) else if roomy ys.length bytes then some (.row H.length ys.length, H ++ [.row sz ys]) else none
        | .row id len => match H[id]? with
          | some (.row sz' l) => if sz' = sz ∧ l.length = len ∧ roomy (len + ys.length) bytes then some (.row id (len + ys.length), H.set id (.row sz (l ++ ys))) else none
          | _ => none
        | _ => none) else none
  | .msl sz bytes z n => match evO cx e n with
    | .d (.int _ n) => if 0 ≤ n ∧ roomy n.toNat bytes ∧ z.length = 1 ∧ sz = 1 then some (.arr H.length 0 n.toNat, H ++ [.box (List.replicate n.toNat (z.headD .undef))]) else none
    | _ => none
  | .mm mx x y => match evO cx e x, evO cx e y with
    | .d (.int k a), .d (.int k' b) => if k = k' then some (.d (.int k (if mx then max a b else min a b)), H) else none
    | _, _ => none
where
  toDs' (cx : Cx) (e : Env) (H : Hp) : List Opd → Option (List D)
    | [] => some []
    | x :: r => match toD H (evO cx e x), toDs' cx e H r with | some y, some ys => some (y :: ys) | _, _ => none
  bound (cx : Cx) (e : Env) (dflt : Nat) : Option Opd → Option Nat
    | none => some dflt
    | some x => idxNat (evO cx e x)

structure St where
  e : Env
  h : Hp
  b : Nat

def putE (dst : Option Nat) (v : V) (e : Env) : Env := match dst with | some d => (d, v) :: e | none => e

/-- What an operation yields is laid in its slot. -/
def lay (dst : Option Nat) (e : Env) (b : Nat) (r : Option (V × Hp)) : Option St := r.map fun x => ⟨putE dst x.1 e, x.2, b⟩

/-- An operation under a guard. -/
def grd (v : V) (b : Bool) (dst : Option Nat) (s : St) (r : Option (V × Hp)) : Option St :=
  match v with
  | .d (.bool t) => if t = b then lay dst s.e s.b r else some ⟨putE dst (.tup []) s.e, s.h, s.b⟩
  | .tup [] => some ⟨putE dst (.tup []) s.e, s.h, s.b⟩
  | _ => none

def evOper (cx : Cx) (orc : Orc) (o : VOper) (s : St) : Option St :=
  match o.guard with
  | none => lay o.dst s.e s.b (evOp cx orc s.b s.e s.h o.op)
  | some (g, b) => grd (getE s.e g) b o.dst s (evOp cx orc s.b s.e s.h o.op)

def evOps (cx : Cx) (orc : Orc) : List VOper → St → Option St
  | [], s => some s
  | o :: r, s => (evOper cx orc o s).bind (evOps cx orc r)

/-- What lies in a piece of the heap leads to nothing at n or above. -/
def newOk (n : Nat) : Hp → Bool
  | [] => true
  | .box c :: l => undL n c && newOk n l
  | _ :: l => newOk n l

open Classical in
/-- The heap has grown at its end alone, and what is new leads to nothing that isn't there. -/
noncomputable def grew (h h' : Hp) : Bool := decide (∃ l, h' = h ++ l) && newOk h'.length (h'.drop h.length)

/-- What was laid in a slot leads to nothing that isn't there. -/
def dstOk (d : Option Nat) (s : St) : Bool := match d with | some d => (getE s.e d).und s.h.length | none => true

noncomputable def evDraw (cx : Cx) (orc : Orc) : Nat → List VOper → St → Option St
  | _, [], s => some s
  | 0, r, s => evOps cx orc r s
  | m + 1, o :: r, s => (evOper cx orc o s).bind fun s' => if (grew s.h s'.h && dstOk o.dst s') = true then evDraw cx orc m r s' else none

end Go.Vm
