import Derived.Test.YtbaoljbcdjdnlaaGreatDoorVmFix
set_option linter.unusedSimpArgs false
set_option linter.unusedVariables false
namespace Go.Vm

structure Ann where
  keep : Nat → List Nat
  ghost : Nat → List VCode

def constV : Value → Option V
  | .bool b => some (.d (.bool b))
  | .int k n => some (.d (.int k n))
  | .string s => some (.d (.str s.data.toList))
  | .pointer none => some .nul
  | .slice none 0 0 => some .nils
  | .nilFunc => some .nof
  | .nilIface => some (.ifc true)
  | _ => none

def constVs : List Value → Option (List V)
  | [] => some []
  | x :: r => match constV x, constVs r with | some v, some vs => some (v :: vs) | _, _ => none

def opdV : Operand → Option Opd
  | .tmp t => some (.t t)
  | .const (.agg c) => (constVs c.toList).map fun l => .c (mkAgg l)
  | .const v => (constV v).map .c
  | .global g => some (.g g)
  | .func f => some (.f f)

def optV : Option Operand → Option (Option Opd)
  | none => some none
  | some x => (opdV x).map some

def opdVs : List Operand → Option (List Opd)
  | [] => some []
  | x :: r => match opdV x, opdVs r with | some v, some vs => some (v :: vs) | _, _ => none

def zeroCells (P : Program) (t : TypeId) : Option (List V) :=
  match P.info? t with
  | some i => match i.zero with | some z => constVs z.cells.toList | none => none
  | none => none

def sizeT (P : Program) (t : TypeId) : Option Nat := (P.info? t).map (·.size)

def aggT (P : Program) (t : TypeId) : Option Bool := (P.underlying t).map fun
  | .struct _ | .array _ _ => true
  | _ => false

def shapeT (P : Program) (t : TypeId) : Option (Option Nat) :=
  match aggT P t with
  | some true => (sizeT P t).map some
  | some false => if sizeT P t = some 1 then some none else none
  | none => none

def partsV (fs : Array Field) (P : Program) : List (Nat × Operand) → Option (List (Nat × Nat × Opd))
  | [] => some []
  | (i, x) :: r => match fs[i]?, opdV x, partsV fs P r with
    | some f, some v, some vs => (sizeT P f.type).map fun n => (f.offset, n, v) :: vs
    | _, _, _ => none

def kindsOf (P : Program) : Nat → List Field → Option (List Nat)
  | _, [] => some []
  | n, f :: r =>
    if f.offset = n ∧ f.name ≠ "_" then
      match P.underlying f.type, kindsOf P (n + 1) r with
      | some .bool, some ks => some (0 :: ks)
      | some (.int _), some ks => some (1 :: ks)
      | some .string, some ks => some (2 :: ks)
      | _, _ => none
    else none

def kindsT (P : Program) (t : TypeId) : Option (List Nat) :=
  match P.underlying t with
  | some (.struct fs) => if P.stoodInHeld t = false ∧ P.eqGuardType P.depth t = false then kindsOf P 0 fs.toList else none
  | _ => none

def inOrder : Nat → List (Nat × Operand) → Bool
  | _, [] => true
  | n, (i, _) :: r => i == n && inOrder (n + 1) r

def zeroD (P : Program) (t : TypeId) : Option D :=
  match (P.info? t).bind (·.zero) with
  | some (.agg c) => ((constVs c.toList).bind allD).map .agg
  | some v => match constV v with
    | some (.d x) => some x
    | _ => none
  | none => none

def keyT (P : Program) (t : TypeId) : Option Nat := match P.underlying t with
  | some .bool => some 0
  | some (.int .i64) => some 1
  | some .string => some 2
  | _ => none

def trOp0 (P : Program) : Op → Option VOp
  | .move x | .assign x => (opdV x).map .mv
  | .pick c a b => match opdV c, opdV a, opdV b with | some c, some a, some b => some (.pick c a b) | _, _, _ => none
  | .alloc t => (zeroCells P t).map .zbox
  | .box _ x => (opdV x).map .box
  | .build t ps => match P.underlying t, zeroCells P t with
    | some (.struct fs), some z => if fs.toList.all (fun f => (P.info? f.type).isSome) then (partsV fs P ps.toList).map fun ps => .build z ps else none
    | _, _ => none
  | .buildSlice t len ps => match P.underlying t with
    | some (.slice e) => match sizeT P e, opdVs (ps.toList.map (·.2)) with
      | some sz, some xs => if inOrder 0 ps.toList && xs.length == len && (zeroCells P e).isSome then (match P.underlying e with
        | some (.int .u8) => if sz = 1 then some (.abs len xs) else none
        | _ => some (.bslice sz len xs)) else none
      | _, _ => none
    | _ => none
  | .load t a => match shapeT P t, opdV a with | some n, some a => some (.ld n a) | _, _ => none
  | .store t a x => match sizeT P t, opdV a, opdV x with | some n, some a, some x => some (.st n a x) | _, _, _ => none
  | .nilCheck x => (opdV x).map .nilck
  | .binOp op t x y _ => match opdV x, opdV y with
    | some a, some b =>
      match P.underlying t with
      | some (.int _) | some .string => some (.bin op a b)
      | some .bool => (match op with
        | .eql => some (.eqb false a b)
        | .neq => some (.eqb true a b)
        | _ => none)
      | some (.struct _) => (match op with
        | .eql => (kindsT P t).map fun ks => .eqa false ks a b
        | .neq => (kindsT P t).map fun ks => .eqa true ks a b
        | _ => none)
      | some (.interface _) => (match op, y with
        | .eql, .const .nilIface => some (.isnil false a)
        | .neq, .const .nilIface => some (.isnil true a)
        | _, _ => none)
      | _ => none
    | _, _ => none
  | .unOp op _ x => (opdV x).map (.un op)
  | .convert s t x => match P.underlying s, P.underlying t, opdV x with
    | some (.int _), some (.int k), some x => some (.conv k x)
    | some .string, some .string, some x => some (.convs x)
    | some (.slice e), _, some x => if s = t then (match P.underlying e with | some (.int .u8) => some (.mark x) | _ => none) else none
    | _, _, _ => none
  | .makeFunc (.func f) first caps => if first.isEmpty then (opdVs caps.toList).map (.mkfn f) else none
  | .makeSlice t (.tmp l) (.tmp c) => match P.underlying t with
    | some (.slice e) => match P.info? e, zeroCells P e with
      | some i, some z => if l == c then some (.msl i.size i.bytes z (.t l)) else none
      | _, _ => none
    | _ => none
  | .slice t x lo hi none => match opdV x, optV lo, optV hi with
    | some x, some lo, some hi => match P.underlying t with
      | some .string => some (.slcs x lo hi)
      | some (.slice e) => (sizeT P e).map fun sz => .slc sz x lo hi
      | _ => none
    | _, _, _ => none
  | .fieldAddr s x f => match P.underlying s, opdV x with
    | some (.struct fs), some x => match fs[f]? with
      | some f => if sizeT P f.type = some 0 then none else if (sizeT P f.type).isNone then none else some (.fadr f.offset x)
      | none => none
    | _, _ => none
  | .field t x f => match P.underlying t, opdV x with
    | some (.struct fs), some x => match fs[f]? with
      | some f => (shapeT P f.type).map fun n => .fld f.offset n x
      | none => none
    | _, _ => none
  | .indexAddr t x i => match P.underlying t, opdV x, opdV i with
    | some (.slice e), some x, some i => (sizeT P e).map fun sz => .iadr sz x i
    | some (.array n e), some x, some i => (sizeT P e).map fun sz => .iadra n sz x i
    | _, _, _ => none
  | .index t x i => match P.underlying t, opdV x, opdV i with
    | some .string, some x, some i => some (.idx x i)
    | _, _, _ => none
  | .extract x i => (opdV x).map fun x => .ext x i
  | .makeMap _ none => some .mkm
  | .mapUpdate t m k x | .insert t m k x => match P.underlying t, opdV m, opdV k, opdV x with
    | some (.map kt _), some m, some k, some x => (keyT P kt).map fun kk => .mput kk m k x
    | _, _, _, _ => none
  | .lookup t m k ok => match P.underlying t, opdV m, opdV k with
    | some (.map kt et), some m, some k => match keyT P kt, zeroD P et with
      | some kk, some z => some (.mget kk ok z m k)
      | _, _ => none
    | _, _, _ => none
  | .mapEntry t m k => match P.underlying t, opdV m, opdV k with
    | some (.map kt et), some m, some k => match keyT P kt, zeroD P et with
      | some kk, some z => some (.ment kk z m k)
      | _, _ => none
    | _, _, _ => none
  | .entryStore t m s x => match opdV m, opdV s, opdV x with
    | some m, some s, some x => some (.mest m s x)
    | _, _, _ => none
  | .call c => match c.callee with
    | .value (.func f) => (opdVs c.args.toList).map (.call f)
    | .value (.tmp t) => (opdVs c.args.toList).map (.callv (.t t))
    | .builtin .len => match c.args.toList, c.argTypes.toList with
      | [x], [t] => match P.underlying t with
        | some .string => (opdV x).map (.len true)
        | some (.slice _) => (opdV x).map (.len false)
        | _ => none
      | _, _ => none
    | .builtin .append => match c.args.toList, c.argTypes.toList with
      | [x, y], [t, u] => match P.underlying t, P.underlying u, opdV x, opdV y with
        | some (.slice e), some (.slice _), some x, some y => match P.info? e with
          | some i => if (zeroCells P e).map (·.length) = some i.size ∧ t = u then some (.app i.size i.bytes x y) else none
          | none => none
        | _, _, _, _ => none
      | _, _ => none
    | .builtin .max => match c.args.toList with | [x, y] => (match opdV x, opdV y with | some x, some y => some (.mm true x y) | _, _ => none) | _ => none
    | .builtin .min => match c.args.toList with | [x, y] => (match opdV x, opdV y with | some x, some y => some (.mm false x y) | _, _ => none) | _ => none
    | _ => none
  | _ => none

def trOp (P : Program) (o : Op) : Option VOp := some ((trOp0 P o).getD .no)

def trOper (P : Program) (ops : Array Oper) (o : Oper) : Option VOper :=
  match trOp P o.op with
  | none => none
  | some v => match o.guard with
    | none => some ⟨o.dst, v, none⟩
    | some (j, b) => match (ops[j]?).bind (·.dst) with
      | some s => some ⟨o.dst, v, some (s, b)⟩
      | none => none

def trOpers (P : Program) (ops : Array Oper) : List Oper → Option (List VOper)
  | [] => some []
  | o :: r => match trOper P ops o, trOpers P ops r with | some v, some vs => some (v :: vs) | _, _ => none

def befores (ops : List Oper) : List Nat :=
  go ops []
where
  go : List Oper → List Nat → List Nat
    | [], acc => acc
    | o :: r, acc => go r (acc ++ [o.after.toList.foldl (fun s e => if Region.binds .any e then s ||| 2 ^ e.on ||| acc.getD e.on 0 else s) 0])

def VOp.opds : VOp → List Opd
  | .mv x | .box x | .ld _ x | .nilck x | .un _ x | .conv _ x | .fld _ _ x | .fadr _ x | .ext x _ | .len _ x | .convs x | .mark x => [x]
  | .pick c a b => [c, a, b]
  | .zbox _ => []
  | .build _ ps => ps.map fun p => p.2.2
  | .bslice _ _ ps => ps
  | .abs _ ps => ps
  | .st _ a x => [a, x]
  | .isnil _ x => [x]
  | .mkm | .no => []
  | .mput _ x y z | .mest x y z => [x, y, z]
  | .mget _ _ _ x y | .ment _ _ x y => [x, y]
  | .bin _ x y | .eqa _ _ x y | .eqb _ x y | .iadr _ x y | .iadra _ _ x y | .idx x y | .app _ _ x y | .mm _ x y => [x, y]
  | .mkfn _ c => c
  | .slcs x lo hi | .slc _ x lo hi => x :: (lo.toList ++ hi.toList)
  | .call _ args => args
  | .callv f args => f :: args
  | .msl _ _ _ n => [n]

def Opd.slots : Opd → List Nat
  | .t i => [i]
  | _ => []

def VOper.names (o : VOper) : List Nat := o.dst.toList ++ o.op.opds.flatMap Opd.slots ++ (match o.guard with | some (g, _) => [g] | none => [])

def Opd.lt (N : Nat) : Opd → Bool
  | .t i => decide (i < N)
  | _ => true

def VOper.okN (N : Nat) (o : VOper) : Bool :=
  (match o.dst with | some d => decide (d < N) | none => true) && o.op.opds.all (Opd.lt N) && (match o.guard with | some (g, _) => decide (g < N) | none => true)

def VCode.okN (N : Nat) : VCode → Bool
  | .reg ops | .draw _ ops => ops.all (VOper.okN N)
  | .seq a b => VCode.okN N a && VCode.okN N b
  | .cond c a b => Opd.lt N c && VCode.okN N a && VCode.okN N b
  | .block _ b | .scope b => VCode.okN N b
  | .loop ks b => ks.all (fun k => decide (k < N)) && VCode.okN N b
  | .newrow _ t | .bindrow _ t _ | .bindto t _ _ | .freeze t => decide (t < N)
  | _ => true

def VFn.ok (f : VFn) : Bool := f.body.okN f.nt && f.res.all (fun | .tmp t => decide (t < f.nt) | .cell t _ => decide (t < f.nt)) && decide (f.np ≤ f.nt)

def freeM (ops : List Oper) : Nat :=
  let b := befores ops
  let full (i : Nat) : Bool := b.getD i 0 % 2 ^ i == 2 ^ i - 1
  let rec go : Nat → Nat
    | 0 => 0
    | n + 1 => if full n then go n else n + 1
  go ops.length

def orderOk (ops : Array Oper) (vs : List VOper) (m : Nat) : Bool :=
  let l := ops.toList
  let b := befores l
  let w := vs.take m
  (l.zipIdx.all fun (o, i) => o.after.all fun e => !Region.binds .any e || decide (e.on < i)) &&
  (l.zipIdx.all fun (_, i) => decide (i < m) || (List.range i).all fun k => (b.getD i 0).testBit k) &&
  (w.zipIdx.all fun (o, i) => o.names.all fun t => w.zipIdx.all fun (p, k) =>
    k == i || p.dst != some t || (if k < i then (b.getD i 0).testBit k else (b.getD k 0).testBit i)) && decide (m ≤ vs.length)

def firstReg : Code → Option Nat
  | .region id _ _ => some id
  | .seq a b => (firstReg a).orElse fun _ => firstReg b
  | .cond _ a b => (firstReg a).orElse fun _ => firstReg b
  | .block _ b | .loop b | .scope b => firstReg b
  | _ => none

def seqAll : List VCode → VCode → VCode
  | [], c => c
  | g :: r, c => .seq g (seqAll r c)

def VCode.isGhost : VCode → Bool
  | .newrow _ _ | .bindrow _ _ _ | .freeze _ | .mkrow _ | .bindto _ _ _ => true
  | _ => false

def tr (P : Program) (A : Ann) : Code → Option VCode
  | .skip => some .skip
  | .label _ => some .skip
  | .region id ops draw => match trOpers P ops ops.toList with
    | none => none
    | some vs => if (A.ghost id).all VCode.isGhost = false then none else if draw then (if orderOk ops vs (freeM ops.toList) then some (seqAll (A.ghost id) (.draw (freeM ops.toList) vs)) else none)
      else some (seqAll (A.ghost id) (.reg vs))
  | .seq a b => match tr P A a, tr P A b with | some x, some y => some (.seq x y) | _, _ => none
  | .cond c a b => match opdV c, tr P A a, tr P A b with | some c, some x, some y => some (.cond c x y) | _, _, _ => none
  | .block id b => (tr P A b).map (.block id)
  | .loop b => (tr P A b).map (.loop ((firstReg b).elim [] A.keep))
  | .scope b => (tr P A b).map .scope
  | .exit id => some (.exit id)
  | .ret => some .ret
  | _ => none

def trRes (P : Program) : List ResultVar → Option (List VRes)
  | [] => some []
  | .tmp t :: r => (trRes P r).map (.tmp t :: ·)
  | .cell a t :: r => match shapeT P t, trRes P r with | some n, some rs => some (.cell a n :: rs) | _, _ => none

def trFn (P : Program) (A : Ann) (keep : Bool) (fn : Func) : Option VFn :=
  match fn.body with
  | none => none
  | some c => match tr P A c, trRes P fn.results.toList with
    | some b, some rs => some ⟨fn.params.size + fn.nfree, fn.ntmps, b, rs, keep⟩
    | _, _ => none

end Go.Vm
