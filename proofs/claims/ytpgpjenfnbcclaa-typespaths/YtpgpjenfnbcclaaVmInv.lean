import Derived.Test.YtpgpjenfnbcclaaVmFix
import Derived.Laws.AppendOwn
import Derived.Laws.Sem
import Derived.Calls
set_option linter.unusedSimpArgs false
set_option linter.unusedVariables false
namespace Go.Vm

structure Ann where
  keep : Nat → List Nat
  ghost : Nat → List VCode

def constV : Value → Option V
  | .bool b => some (.d (.bool b))
  | .int k n => some (.d (.int k n))
  | .string s => some (.d (.str s.data.toList))
  | .pointer none => some .nul
  | .slice none 0 0 => some .nils
  | .nilFunc => some .nof
  | .nilIface => some (.ifc true)
  | .map none => some .nmp
  | _ => none

def constVs : List Value → Option (List V)
  | [] => some []
  | x :: r => match constV x, constVs r with | some v, some vs => some (v :: vs) | _, _ => none

def opdV : Operand → Option Opd
  | .tmp t => some (.t t)
  | .const (.agg c) => (constVs c.toList).map fun l => .c (mkAgg l)
  | .const v => (constV v).map .c
  | .global g => some (.g g)
  | .func f => some (.f f)

def optV : Option Operand → Option (Option Opd)
  | none => some none
  | some x => (opdV x).map some

def opdVs : List Operand → Option (List Opd)
  | [] => some []
  | x :: r => match opdV x, opdVs r with | some v, some vs => some (v :: vs) | _, _ => none

def zeroCells (P : Program) (t : TypeId) : Option (List V) :=
  match P.info? t with
  | some i => match i.zero with | some z => constVs z.cells.toList | none => none
  | none => none

def sizeT (P : Program) (t : TypeId) : Option Nat := (P.info? t).map (·.size)

def aggT (P : Program) (t : TypeId) : Option Bool := (P.underlying t).map fun
  | .struct _ | .array _ _ => true
  | _ => false

def shapeT (P : Program) (t : TypeId) : Option (Option Nat) :=
  match aggT P t with
  | some true => (sizeT P t).map some
  | some false => if sizeT P t = some 1 then some none else none
  | none => none

def partsV (fs : Array Field) (P : Program) : List (Nat × Operand) → Option (List (Nat × Nat × Opd))
  | [] => some []
  | (i, x) :: r => match fs[i]?, opdV x, partsV fs P r with
    | some f, some v, some vs => (sizeT P f.type).map fun n => (f.offset, n, v) :: vs
    | _, _, _ => none

def kindsOf (P : Program) : Nat → List Field → Option (List Nat)
  | _, [] => some []
  | n, f :: r =>
    if f.offset = n ∧ f.name ≠ "_" then
      match P.underlying f.type, kindsOf P (n + 1) r with
      | some .bool, some ks => some (0 :: ks)
      | some (.int _), some ks => some (1 :: ks)
      | some .string, some ks => some (2 :: ks)
      | _, _ => none
    else none

def kindsT (P : Program) (t : TypeId) : Option (List Nat) :=
  match P.underlying t with
  | some (.struct fs) => if P.stoodInHeld t = false ∧ P.eqGuardType P.depth t = false then kindsOf P 0 fs.toList else none
  | _ => none

def inOrder : Nat → List (Nat × Operand) → Bool
  | _, [] => true
  | n, (i, _) :: r => i == n && inOrder (n + 1) r

def zeroD (P : Program) (t : TypeId) : Option D :=
  match (P.info? t).bind (·.zero) with
  | some (.agg c) => ((constVs c.toList).bind allD).map .agg
  | some v => match constV v with
    | some (.d x) => some x
    | _ => none
  | none => none

def keyT (P : Program) (t : TypeId) : Option Nat := match P.underlying t with
  | some .bool => some 0
  | some (.int .i64) => some 1
  | some .string => some 2
  | _ => none

def trOp0 (P : Program) : Op → Option VOp
  | .move x | .assign x => (opdV x).map .mv
  | .pick c a b => match opdV c, opdV a, opdV b with | some c, some a, some b => some (.pick c a b) | _, _, _ => none
  | .alloc t => (zeroCells P t).map .zbox
  | .box _ x => (opdV x).map .box
  | .build t ps => match P.underlying t, zeroCells P t with
    | some (.struct fs), some z => if fs.toList.all (fun f => (P.info? f.type).isSome) then (partsV fs P ps.toList).map fun ps => .build z ps else none
    | _, _ => none
  | .buildSlice t len ps => match P.underlying t with
    | some (.slice e) => match sizeT P e, opdVs (ps.toList.map (·.2)) with
      | some sz, some xs => if inOrder 0 ps.toList && xs.length == len && (zeroCells P e).isSome then (match P.underlying e with
        | some (.int .u8) => if sz = 1 then some (.abs len xs) else none
        | _ => if len = 0 ∧ 0 < sz then some (.brow sz) else some (.bslice sz len xs)) else none
      | _, _ => none
    | _ => none
  | .load t a => match shapeT P t, opdV a with | some n, some a => some (.ld n a) | _, _ => none
  | .store t a x => match sizeT P t, opdV a, opdV x with | some n, some a, some x => some (.st n a x) | _, _, _ => none
  | .nilCheck x => (opdV x).map .nilck
  | .binOp op t x y _ => match opdV x, opdV y with
    | some a, some b =>
      match P.underlying t with
      | some (.int _) | some .string => some (.bin op a b)
      | some .bool => (match op with
        | .eql => some (.eqb false a b)
        | .neq => some (.eqb true a b)
        | _ => none)
      | some (.struct _) => (match op with
        | .eql => (kindsT P t).map fun ks => .eqa false ks a b
        | .neq => (kindsT P t).map fun ks => .eqa true ks a b
        | _ => none)
      | some (.interface _) => (match op, y with
        | .eql, .const .nilIface => some (.isnil false a)
        | .neq, .const .nilIface => some (.isnil true a)
        | _, _ => none)
      | _ => none
    | _, _ => none
  | .unOp op _ x => (opdV x).map (.un op)
  | .convert s t x => match P.underlying s, P.underlying t, opdV x with
    | some (.int _), some (.int k), some x => some (.conv k x)
    | some .string, some .string, some x => some (.convs x)
    | some (.slice e), _, some x => if s = t then (match P.underlying e with | some (.int .u8) => some (.mark x) | _ => none) else none
    | _, _, _ => none
  | .makeFunc (.func f) first caps => if first.isEmpty then (opdVs caps.toList).map (.mkfn f) else none
  | .makeSlice t (.tmp l) (.tmp c) => match P.underlying t with
    | some (.slice e) => match P.info? e, zeroCells P e with
      | some i, some z => if l == c then some (.msl i.size i.bytes z (.t l)) else none
      | _, _ => none
    | _ => none
  | .slice t x lo hi none => match opdV x, optV lo, optV hi with
    | some x, some lo, some hi => match P.underlying t with
      | some .string => some (.slcs x lo hi)
      | some (.slice e) => (sizeT P e).map fun sz => .slc sz x lo hi
      | _ => none
    | _, _, _ => none
  | .fieldAddr s x f => match P.underlying s, opdV x with
    | some (.struct fs), some x => match fs[f]? with
      | some f => if sizeT P f.type = some 0 then none else if (sizeT P f.type).isNone then none else some (.fadr f.offset x)
      | none => none
    | _, _ => none
  | .field t x f => match P.underlying t, opdV x with
    | some (.struct fs), some x => match fs[f]? with
      | some f => (shapeT P f.type).map fun n => .fld f.offset n x
      | none => none
    | _, _ => none
  | .indexAddr t x i => match P.underlying t, opdV x, opdV i with
    | some (.slice e), some x, some i => (sizeT P e).map fun sz => .iadr sz x i
    | some (.array n e), some x, some i => (sizeT P e).map fun sz => .iadra n sz x i
    | _, _, _ => none
  | .index t x i => match P.underlying t, opdV x, opdV i with
    | some .string, some x, some i => some (.idx x i)
    | _, _, _ => none
  | .extract x i => (opdV x).map fun x => .ext x i
  | .makeMap _ none => some .mkm
  | .mapUpdate t m k x | .insert t m k x => match P.underlying t, opdV m, opdV k, opdV x with
    | some (.map kt _), some m, some k, some x => (keyT P kt).map fun kk => .mput kk m k x
    | _, _, _, _ => none
  | .lookup t m k ok => match P.underlying t, opdV m, opdV k with
    | some (.map kt et), some m, some k => match keyT P kt, zeroD P et with
      | some kk, some z => some (.mget kk ok z m k)
      | _, _ => none
    | _, _, _ => none
  | .mapEntry t m k => match P.underlying t, opdV m, opdV k with
    | some (.map kt et), some m, some k => match keyT P kt, zeroD P et with
      | some kk, some z => some (.ment kk z m k)
      | _, _ => none
    | _, _, _ => none
  | .entryStore t m s x => match opdV m, opdV s, opdV x with
    | some m, some s, some x => some (.mest m s x)
    | _, _, _ => none
  | .call c => match c.callee with
    | .value (.func f) => (opdVs c.args.toList).map (.call f)
    | .value (.tmp t) => (opdVs c.args.toList).map (.callv (.t t))
    | .builtin .len => match c.args.toList, c.argTypes.toList with
      | [x], [t] => match P.underlying t with
        | some .string => (opdV x).map (.len true)
        | some (.slice _) => (opdV x).map (.len false)
        | _ => none
      | _, _ => none
    | .builtin .append => match c.args.toList, c.argTypes.toList with
      | [x, y], [t, u] => match P.underlying t, P.underlying u, opdV x, opdV y with
        | some (.slice e), some (.slice _), some x, some y => match P.info? e with
          | some i => if (zeroCells P e).map (·.length) = some i.size ∧ t = u then some (.app i.size i.bytes x y) else none
          | none => none
        | _, _, _, _ => none
      | _, _ => none
    | .builtin .max => match c.args.toList with | [x, y] => (match opdV x, opdV y with | some x, some y => some (.mm true x y) | _, _ => none) | _ => none
    | .builtin .min => match c.args.toList with | [x, y] => (match opdV x, opdV y with | some x, some y => some (.mm false x y) | _, _ => none) | _ => none
    | _ => none
  | _ => none

def trOp (P : Program) (o : Op) : Option VOp := some ((trOp0 P o).getD .no)

def trOper (P : Program) (ops : Array Oper) (o : Oper) : Option VOper :=
  match trOp P o.op with
  | none => none
  | some v => match o.guard with
    | none => some ⟨o.dst, v, none⟩
    | some (j, b) => match (ops[j]?).bind (·.dst) with
      | some s => some ⟨o.dst, v, some (s, b)⟩
      | none => none

def trOpers (P : Program) (ops : Array Oper) : List Oper → Option (List VOper)
  | [] => some []
  | o :: r => match trOper P ops o, trOpers P ops r with | some v, some vs => some (v :: vs) | _, _ => none

def befores (ops : List Oper) : List Nat :=
  go ops []
where
  go : List Oper → List Nat → List Nat
    | [], acc => acc
    | o :: r, acc => go r (acc ++ [o.after.toList.foldl (fun s e => if Region.binds .any e then s ||| 2 ^ e.on ||| acc.getD e.on 0 else s) 0])

def VOp.opds : VOp → List Opd
  | .mv x | .box x | .ld _ x | .nilck x | .un _ x | .conv _ x | .fld _ _ x | .fadr _ x | .ext x _ | .len _ x | .convs x | .mark x => [x]
  | .pick c a b => [c, a, b]
  | .zbox _ => []
  | .build _ ps => ps.map fun p => p.2.2
  | .bslice _ _ ps => ps
  | .abs _ ps => ps
  | .st _ a x => [a, x]
  | .isnil _ x => [x]
  | .mkm | .no | .brow _ => []
  | .mput _ x y z | .mest x y z => [x, y, z]
  | .mget _ _ _ x y | .ment _ _ x y => [x, y]
  | .bin _ x y | .eqa _ _ x y | .eqb _ x y | .iadr _ x y | .iadra _ _ x y | .idx x y | .app _ _ x y | .mm _ x y => [x, y]
  | .mkfn _ c => c
  | .slcs x lo hi | .slc _ x lo hi => x :: (lo.toList ++ hi.toList)
  | .call _ args => args
  | .callv f args => f :: args
  | .msl _ _ _ n => [n]

def Opd.slots : Opd → List Nat
  | .t i => [i]
  | _ => []

def VOper.names (o : VOper) : List Nat := o.dst.toList ++ o.op.opds.flatMap Opd.slots ++ (match o.guard with | some (g, _) => [g] | none => [])

def Opd.lt (N : Nat) : Opd → Bool
  | .t i => decide (i < N)
  | _ => true

def VOper.okN (N : Nat) (o : VOper) : Bool :=
  (match o.dst with | some d => decide (d < N) | none => true) && o.op.opds.all (Opd.lt N) && (match o.guard with | some (g, _) => decide (g < N) | none => true)

def VCode.okN (N : Nat) : VCode → Bool
  | .reg ops | .draw _ ops => ops.all (VOper.okN N)
  | .seq a b => VCode.okN N a && VCode.okN N b
  | .cond c a b => Opd.lt N c && VCode.okN N a && VCode.okN N b
  | .block _ b | .scope b => VCode.okN N b
  | .loop ks b => ks.all (fun k => decide (k < N)) && VCode.okN N b
  | .newrow _ t | .bindrow _ t _ | .bindto t _ _ | .freeze t => decide (t < N)
  | _ => true

def VFn.ok (f : VFn) : Bool := f.body.okN f.nt && f.res.all (fun | .tmp t => decide (t < f.nt) | .cell t _ => decide (t < f.nt)) && decide (f.np ≤ f.nt)

def freeM (ops : List Oper) : Nat :=
  let b := befores ops
  let full (i : Nat) : Bool := b.getD i 0 % 2 ^ i == 2 ^ i - 1
  let rec go : Nat → Nat
    | 0 => 0
    | n + 1 => if full n then go n else n + 1
  go ops.length

def orderOk (ops : Array Oper) (vs : List VOper) (m : Nat) : Bool :=
  let l := ops.toList
  let b := befores l
  let w := vs.take m
  (l.zipIdx.all fun (o, i) => o.after.all fun e => !Region.binds .any e || decide (e.on < i)) &&
  (l.zipIdx.all fun (_, i) => decide (i < m) || (List.range i).all fun k => (b.getD i 0).testBit k) &&
  (w.zipIdx.all fun (o, i) => o.names.all fun t => w.zipIdx.all fun (p, k) =>
    k == i || p.dst != some t || (if k < i then (b.getD i 0).testBit k else (b.getD k 0).testBit i)) && decide (m ≤ vs.length)

def firstReg : Code → Option Nat
  | .region id _ _ => some id
  | .seq a b => (firstReg a).orElse fun _ => firstReg b
  | .cond _ a b => (firstReg a).orElse fun _ => firstReg b
  | .block _ b | .loop b | .scope b => firstReg b
  | _ => none

def seqAll : List VCode → VCode → VCode
  | [], c => c
  | g :: r, c => .seq g (seqAll r c)

def VCode.isGhost : VCode → Bool
  | .newrow _ _ | .bindrow _ _ _ | .freeze _ | .mkrow _ | .bindto _ _ _ => true
  | _ => false

def tr (P : Program) (A : Ann) : Code → Option VCode
  | .skip => some .skip
  | .label _ => some .skip
  | .region id ops draw => match trOpers P ops ops.toList with
    | none => none
    | some vs => if (A.ghost id).all VCode.isGhost = false then none else if draw then (if orderOk ops vs (freeM ops.toList) then some (seqAll (A.ghost id) (.draw (freeM ops.toList) vs)) else none)
      else some (seqAll (A.ghost id) (.reg vs))
  | .seq a b => match tr P A a, tr P A b with | some x, some y => some (.seq x y) | _, _ => none
  | .cond c a b => match opdV c, tr P A a, tr P A b with | some c, some x, some y => some (.cond c x y) | _, _, _ => none
  | .block id b => (tr P A b).map (.block id)
  | .loop b => (tr P A b).map (.loop ((firstReg b).elim [] A.keep))
  | .scope b => (tr P A b).map .scope
  | .exit id => some (.exit id)
  | .ret => some .ret
  | _ => none

def trRes (P : Program) : List ResultVar → Option (List VRes)
  | [] => some []
  | .tmp t :: r => (trRes P r).map (.tmp t :: ·)
  | .cell a t :: r => match shapeT P t, trRes P r with | some n, some rs => some (.cell a n :: rs) | _, _ => none

def trFn (P : Program) (A : Ann) (keep : Bool) (fn : Func) : Option VFn :=
  match fn.body with
  | none => none
  | some c => match tr P A c, trRes P fn.results.toList with
    | some b, some rs => some ⟨fn.params.size + fn.nfree, fn.ntmps, b, rs, keep⟩
    | _, _ => none

end Go.Vm
namespace Go.Vm

structure Gh where
  J : Nat → Option (Nat × Nat)
  C : Nat → List Value

mutual
def RepCs (C : Nat → List Value) : D → List Value → Prop
  | .bool b, vs => vs = [.bool b]
  | .int k n, vs => vs = [.int k n]
  | .str s, vs => vs = [.string ⟨s.toArray⟩]
  | .agg l, vs => RepDs C l vs
  | .sl l, vs => ∃ a cap, vs = [.slice a l.length cap] ∧ l.length ≤ cap ∧ (l = [] ∨ ∃ b off sz us, a = some ⟨b, off, none⟩ ∧ 0 < sz ∧ us <+: (C b).drop off ∧ RepEl C sz l us)
def RepDs (C : Nat → List Value) : List D → List Value → Prop
  | [], vs => vs = []
  | d :: ds, vs => ∃ y ys, vs = y :: ys ∧ d.one = true ∧ RepCs C d [y] ∧ RepDs C ds ys
def RepEl (C : Nat → List Value) (sz : Nat) : List D → List Value → Prop
  | [], vs => vs = []
  | d :: ds, vs => ∃ v1 v2, vs = v1 ++ v2 ∧ v1.length = sz ∧ RepCs C d v1 ∧ RepEl C sz ds v2
end

def RepD (C : Nat → List Value) : D → Value → Prop
  | .agg l, x => ∃ cs : Array Value, x = .agg cs ∧ RepDs C l cs.toList
  | d, x => RepCs C d [x]

theorem prefix_drop {α : Type} {a b : List α} (h : a <+: b) (n : Nat) : a.drop n <+: b.drop n := by
  obtain ⟨t, rfl⟩ := h
  rw [List.drop_append]
  exact List.prefix_append _ _

theorem prefix_getElem {α : Type} {a b : List α} (h : a <+: b) {i : Nat} {x : α} (hx : a[i]? = some x) : b[i]? = some x := by
  obtain ⟨t, rfl⟩ := h
  have hi := (List.getElem?_eq_some_iff.1 hx).1
  rw [List.getElem?_append_left hi]; exact hx

section mono
variable {C C' : Nat → List Value}
mutual
theorem RepCs_mono (h : ∀ b, C b <+: C' b) : ∀ (d : D) (vs : List Value), RepCs C d vs → RepCs C' d vs
  | .bool _, _, r => r
  | .int _ _, _, r => r
  | .str _, _, r => r
  | .agg l, vs, r => by simp only [RepCs] at r ⊢; exact RepDs_mono h l vs r
  | .sl l, vs, r => by
    simp only [RepCs] at r ⊢
    obtain ⟨a, cap, rfl, hc, r⟩ := r
    refine ⟨a, cap, rfl, hc, r.imp id ?_⟩
    rintro ⟨b, off, sz, us, h1, h2, h3, h4⟩
    exact ⟨b, off, sz, us, h1, h2, h3.trans (prefix_drop (h b) off), RepEl_mono h sz l us h4⟩
theorem RepDs_mono (h : ∀ b, C b <+: C' b) : ∀ (l : List D) (vs : List Value), RepDs C l vs → RepDs C' l vs
  | [], _, r => r
  | d :: ds, vs, r => by
    simp only [RepDs] at r ⊢
    obtain ⟨y, ys, rfl, h1, h2, h3⟩ := r
    exact ⟨y, ys, rfl, h1, RepCs_mono h d [y] h2, RepDs_mono h ds ys h3⟩
theorem RepEl_mono (h : ∀ b, C b <+: C' b) (sz : Nat) : ∀ (l : List D) (vs : List Value), RepEl C sz l vs → RepEl C' sz l vs
  | [], _, r => r
  | d :: ds, vs, r => by
    simp only [RepEl] at r ⊢
    obtain ⟨v1, v2, rfl, h1, h2, h3⟩ := r
    exact ⟨v1, v2, rfl, h1, RepCs_mono h d v1 h2, RepEl_mono h sz ds v2 h3⟩
end
theorem RepD_mono (h : ∀ b, C b <+: C' b) {d : D} {x : Value} (r : RepD C d x) : RepD C' d x := by
  cases d with
  | agg l => obtain ⟨cs, rfl, r⟩ := r; exact ⟨cs, rfl, RepDs_mono h _ _ r⟩
  | _ => exact RepCs_mono h _ _ r
end mono

section facts
variable {C : Nat → List Value}
theorem RepDs_length : ∀ {l : List D} {vs : List Value}, RepDs C l vs → vs.length = l.length
  | [], vs, r => by simp only [RepDs] at r; subst r; rfl
  | d :: ds, vs, r => by
    simp only [RepDs] at r
    obtain ⟨y, ys, rfl, _, _, h3⟩ := r
    simp [RepDs_length h3]

theorem RepCs_length {d : D} {vs : List Value} (r : RepCs C d vs) : vs.length = d.cells.length := by
  cases d with
  | bool b => simp only [RepCs] at r; subst r; rfl
  | int k n => simp only [RepCs] at r; subst r; rfl
  | str s => simp only [RepCs] at r; subst r; rfl
  | agg l => simp only [RepCs] at r; exact RepDs_length r
  | sl l => simp only [RepCs] at r; obtain ⟨a, cap, rfl, _⟩ := r; rfl

theorem RepCs_one {d : D} {y : Value} (hd : d.one = true) (r : RepCs C d [y]) : y.oneCell' = true := by
  cases d with
  | bool b => simp only [RepCs] at r; cases r; rfl
  | int k n => simp only [RepCs] at r; cases r; rfl
  | str s => simp only [RepCs] at r; cases r; rfl
  | agg l => cases hd
  | sl l => simp only [RepCs] at r; obtain ⟨a, cap, h, _⟩ := r; cases h; rfl

theorem RepDs_one : ∀ {l : List D} {vs : List Value}, RepDs C l vs → ∀ v ∈ vs, v.oneCell' = true
  | [], vs, r, v, hv => by simp only [RepDs] at r; subst r; cases hv
  | d :: ds, vs, r, v, hv => by
    simp only [RepDs] at r
    obtain ⟨y, ys, rfl, h1, h2, h3⟩ := r
    cases hv with
    | head => exact RepCs_one h1 h2
    | tail _ hm => exact RepDs_one h3 v hm

theorem RepCs_ones {d : D} {vs : List Value} (r : RepCs C d vs) : ∀ v ∈ vs, v.oneCell' = true := by
  cases d with
  | agg l => simp only [RepCs] at r; exact RepDs_one r
  | _ =>
    intro v hv
    have hl := RepCs_length r
    simp only [D.cells, List.length_cons, List.length_nil] at hl
    obtain ⟨y, rfl⟩ := List.length_eq_one_iff.1 hl
    simp only [List.mem_singleton] at hv
    subst hv
    exact RepCs_one rfl r

theorem RepEl_length {sz : Nat} : ∀ {l : List D} {vs : List Value}, RepEl C sz l vs → vs.length = l.length * sz
  | [], vs, r => by simp only [RepEl] at r; subst r; simp
  | d :: ds, vs, r => by
    simp only [RepEl] at r
    obtain ⟨v1, v2, rfl, h1, _, h3⟩ := r
    simp [RepEl_length h3, h1, Nat.add_mul, Nat.add_comm]

theorem RepEl_ones {sz : Nat} : ∀ {l : List D} {vs : List Value}, RepEl C sz l vs → ∀ v ∈ vs, v.oneCell' = true
  | [], vs, r, v, hv => by simp only [RepEl] at r; subst r; cases hv
  | d :: ds, vs, r, v, hv => by
    simp only [RepEl] at r
    obtain ⟨v1, v2, rfl, h1, h2, h3⟩ := r
    rcases List.mem_append.1 hv with hv | hv
    · exact RepCs_ones h2 v hv
    · exact RepEl_ones h3 v hv

theorem RepEl_append {sz : Nat} : ∀ {l l' : List D} {vs vs' : List Value}, RepEl C sz l vs → RepEl C sz l' vs' → RepEl C sz (l ++ l') (vs ++ vs')
  | [], l', vs, vs', r, r' => by simp only [RepEl] at r; subst r; exact r'
  | d :: ds, l', vs, vs', r, r' => by
    simp only [RepEl] at r
    obtain ⟨v1, v2, rfl, h1, h2, h3⟩ := r
    simp only [List.cons_append, RepEl]
    exact ⟨v1, v2 ++ vs', by simp, h1, h2, RepEl_append h3 r'⟩

theorem RepEl_get {sz : Nat} : ∀ {l : List D} {vs : List Value} {i : Nat} {d : D}, RepEl C sz l vs → l[i]? = some d → RepCs C d ((vs.drop (i * sz)).take sz)
  | [], vs, i, d, r, h => by simp at h
  | d :: ds, vs, 0, d', r, h => by
    simp only [RepEl] at r
    obtain ⟨v1, v2, rfl, h1, h2, h3⟩ := r
    simp only [List.getElem?_cons_zero, Option.some.injEq] at h
    subst h
    simpa [← h1] using h2
  | d :: ds, vs, i + 1, d', r, h => by
    simp only [RepEl] at r
    obtain ⟨v1, v2, rfl, h1, h2, h3⟩ := r
    simp only [List.getElem?_cons_succ] at h
    have := RepEl_get h3 h
    rw [Nat.add_mul, Nat.one_mul, Nat.add_comm, ← h1, List.drop_length_add_append, h1]
    exact this

theorem RepEl_take {sz : Nat} : ∀ {l : List D} {vs : List Value} (k : Nat), RepEl C sz l vs → RepEl C sz (l.take k) (vs.take (k * sz))
  | [], vs, k, r => by simp only [RepEl] at r; subst r; simp [RepEl]
  | d :: ds, vs, 0, r => by simp [RepEl]
  | d :: ds, vs, k + 1, r => by
    simp only [RepEl] at r
    obtain ⟨v1, v2, rfl, h1, h2, h3⟩ := r
    simp only [List.take_succ_cons, RepEl]
    refine ⟨v1, v2.take (k * sz), ?_, h1, h2, RepEl_take k h3⟩
    rw [Nat.add_mul, Nat.one_mul, Nat.add_comm, ← h1, List.take_length_add_append]

theorem RepEl_drop {sz : Nat} : ∀ {l : List D} {vs : List Value} (k : Nat), RepEl C sz l vs → RepEl C sz (l.drop k) (vs.drop (k * sz))
  | [], vs, k, r => by simp only [RepEl] at r; subst r; simp [RepEl]
  | d :: ds, vs, 0, r => by simpa using r
  | d :: ds, vs, k + 1, r => by
    simp only [RepEl] at r
    obtain ⟨v1, v2, rfl, h1, h2, h3⟩ := r
    simp only [List.drop_succ_cons]
    rw [Nat.add_mul, Nat.one_mul, Nat.add_comm, ← h1, List.drop_length_add_append, h1]
    exact RepEl_drop k h3

theorem RepDs_take : ∀ {l : List D} {vs : List Value} (k : Nat), RepDs C l vs → RepDs C (l.take k) (vs.take k)
  | [], vs, k, r => by simp only [RepDs] at r; subst r; simp [RepDs]
  | d :: ds, vs, 0, r => by simp [RepDs]
  | d :: ds, vs, k + 1, r => by
    simp only [RepDs] at r
    obtain ⟨y, ys, rfl, h1, h2, h3⟩ := r
    simp only [List.take_succ_cons, RepDs]
    exact ⟨y, ys.take k, rfl, h1, h2, RepDs_take k h3⟩

theorem RepDs_drop : ∀ {l : List D} {vs : List Value} (k : Nat), RepDs C l vs → RepDs C (l.drop k) (vs.drop k)
  | [], vs, k, r => by simp only [RepDs] at r; subst r; simp [RepDs]
  | d :: ds, vs, 0, r => by simpa using r
  | d :: ds, vs, k + 1, r => by
    simp only [RepDs] at r
    obtain ⟨y, ys, rfl, h1, h2, h3⟩ := r
    simp only [List.drop_succ_cons]
    exact RepDs_drop k h3

theorem RepDs_El : ∀ {l : List D} {vs : List Value}, RepDs C l vs → RepEl C 1 l vs
  | [], vs, r => r
  | d :: ds, vs, r => by
    simp only [RepDs] at r
    obtain ⟨y, ys, rfl, h1, h2, h3⟩ := r
    simp only [RepEl]
    exact ⟨[y], ys, rfl, rfl, h2, RepDs_El h3⟩

theorem RepD_cells {d : D} {x : Value} (r : RepD C d x) : RepCs C d x.cells.toList := by
  cases d with
  | agg l => obtain ⟨cs, rfl, r⟩ := r; simpa only [RepCs, Value.cells] using r
  | bool b => simp only [RepD, RepCs] at r; cases r; simp [RepCs, Value.cells]
  | int k n => simp only [RepD, RepCs] at r; cases r; simp [RepCs, Value.cells]
  | str s => simp only [RepD, RepCs] at r; cases r; simp [RepCs, Value.cells]
  | sl l => simp only [RepD] at r; have := r; simp only [RepCs] at r; obtain ⟨a, cap, h, _⟩ := r; cases h; exact this

theorem RepD_of_one {d : D} {y : Value} (hd : d.one = true) (r : RepCs C d [y]) : RepD C d y := by
  cases d with
  | agg l => cases hd
  | _ => exact r

theorem RepDs_cells {d : D} {vs : List Value} (r : RepCs C d vs) : RepDs C d.cells vs := by
  cases d with
  | agg l => simpa only [D.cells, RepCs] using r
  | bool b => simp only [D.cells, RepDs]; simp only [RepCs] at r; subst r; exact ⟨_, _, rfl, rfl, rfl, rfl⟩
  | int k n => simp only [D.cells, RepDs]; simp only [RepCs] at r; subst r; exact ⟨_, _, rfl, rfl, rfl, rfl⟩
  | str s => simp only [D.cells, RepDs]; simp only [RepCs] at r; subst r; exact ⟨_, _, rfl, rfl, rfl, rfl⟩
  | sl l =>
    simp only [D.cells, RepDs]
    have r' := r
    simp only [RepCs] at r
    obtain ⟨a, cap, rfl, _⟩ := r
    exact ⟨_, _, rfl, rfl, r', rfl⟩
end facts

mutual
/-- A value of the model that a value of the machine stands for. -/
def Rep (g : Gh) (H : Hp) : V → Value → Prop
  | .d x, v => RepD g.C x v
  | .agg l, v => ∃ cs : Array Value, v = .agg cs ∧ RepVs g H l cs.toList
  | .tup l, v => ∃ cs : Array Value, v = .tuple cs ∧ RepTs g H l cs.toList
  | .nils, v => v = .slice none 0 0
  | .row id len, v => ∃ a cap sz l, v = .slice a len cap ∧ H[id]? = some (.row sz l) ∧ len ≤ l.length ∧ (len = l.length → (len = 0 ∧ a = none ∧ cap = 0) ∨ ∃ b, g.J id = some (b, cap) ∧ a = some ⟨b, 0, none⟩)
  | .arr id off len, v => (∃ o, H[id]? = some o ∧ ∀ sz l, o ≠ .row sz l) ∧ ∃ b c cap, g.J id = some (b, c) ∧ v = .slice (some ⟨b, off, none⟩) len cap ∧ len ≤ cap
  | .ptr id off, v => (∃ o, H[id]? = some o ∧ ∀ sz l, o ≠ .row sz l) ∧ ∃ b c, g.J id = some (b, c) ∧ v = .pointer (some ⟨b, off, none⟩)
  | .mp id, v => (∃ o, H[id]? = some o ∧ ∀ sz l, o ≠ .row sz l) ∧ ∃ b c, g.J id = some (b, c) ∧ v = .map (some b)
  | .ro l off, v => ∃ b o vs, v = .pointer (some ⟨b, o + off, none⟩) ∧ vs <+: (g.C b).drop o ∧ RepDs g.C l vs
  | .fn f c, v => ∃ cs : Array Value, v = .func (.func f) #[] cs ∧ RepTs g H c cs.toList
  | .nul, v => v = .pointer none
  | .nof, v => v = .nilFunc
  | .ifc b, v => (b = true ∧ v = .nilIface) ∨ (b = false ∧ ∃ t y, v = .iface t y)
  | .raw y, v => v = y
  | .nmp, v => v = .map none
  | .nile, v => ∃ a : Option Addr, v = .slice a 0 0 ∧ ∀ q, a = some q → q.spot = none
  | .undef, _ => True
/-- Cells. -/
def RepVs (g : Gh) (H : Hp) : List V → List Value → Prop
  | [], vs => vs = []
  | x :: xs, vs => ∃ y ys, vs = y :: ys ∧ x.one = true ∧ Rep g H x y ∧ RepVs g H xs ys
/-- Components. -/
def RepTs (g : Gh) (H : Hp) : List V → List Value → Prop
  | [], vs => vs = []
  | x :: xs, vs => ∃ y ys, vs = y :: ys ∧ Rep g H x y ∧ RepTs g H xs ys
end

structure Keep (n : Nat) (g : Gh) (H : Hp) (g' : Gh) (H' : Hp) : Prop where
  C : ∀ b, g.C b <+: g'.C b
  obj : ∀ i o, i < n → H[i]? = some o → (∀ sz l, o ≠ .row sz l) → g'.J i = g.J i ∧ ∃ o', H'[i]? = some o' ∧ ∀ sz l, o' ≠ .row sz l
  row : ∀ i sz l, i < n → H[i]? = some (.row sz l) → ∃ l', H'[i]? = some (.row sz l') ∧ l <+: l' ∧ (l'.length = l.length → g'.J i = g.J i)

theorem Keep.refl (n : Nat) (g : Gh) (H : Hp) : Keep n g H g H :=
  ⟨fun _ => List.prefix_refl _, fun _ o _ ho h => ⟨rfl, o, ho, h⟩, fun _ _ l _ ho => ⟨l, ho, List.prefix_refl _, fun _ => rfl⟩⟩

theorem Keep.trans {n m : Nat} {g g1 g2 : Gh} {H H1 H2 : Hp} (h : Keep n g H g1 H1) (k : Keep m g1 H1 g2 H2) (hm : n ≤ m) : Keep n g H g2 H2 := by
  refine ⟨fun b => (h.C b).trans (k.C b), fun i o hi ho hr => ?_, fun i sz l hi ho => ?_⟩
  · obtain ⟨e1, o', h1, h2⟩ := h.obj i o hi ho hr
    obtain ⟨e2, o'', h3, h4⟩ := k.obj i o' (by omega) h1 h2
    exact ⟨e2.trans e1, o'', h3, h4⟩
  · obtain ⟨l', h1, h2, h3⟩ := h.row i sz l hi ho
    obtain ⟨l'', h4, h5, h6⟩ := k.row i sz l' (by omega) h1
    refine ⟨l'', h4, h2.trans h5, fun he => ?_⟩
    have a := h2.length_le
    have b := h5.length_le
    rw [h6 (by omega), h3 (by omega)]

theorem Keep.le {n m : Nat} {g g' : Gh} {H H' : Hp} (h : Keep m g H g' H') (hn : n ≤ m) : Keep n g H g' H' :=
  ⟨h.C, fun i o hi => h.obj i o (by omega), fun i sz l hi => h.row i sz l (by omega)⟩

structure KeepW (n : Nat) (g : Gh) (H : Hp) (g' : Gh) (H' : Hp) : Prop where
  C : ∀ b, g.C b <+: g'.C b
  obj : ∀ i o, i < n → H[i]? = some o → (∀ sz l, o ≠ .row sz l) → (∀ p, g.J i = some p → g'.J i = some p) ∧ ∃ o', H'[i]? = some o' ∧ ∀ sz l, o' ≠ .row sz l
  row : ∀ i sz l, i < n → H[i]? = some (.row sz l) → ∃ l', H'[i]? = some (.row sz l') ∧ l <+: l' ∧ (l'.length = l.length → ∀ p, g.J i = some p → g'.J i = some p)

theorem Keep.w {n : Nat} {g g' : Gh} {H H' : Hp} (k : Keep n g H g' H') : KeepW n g H g' H' :=
  ⟨k.C, fun i o hi ho hr => ⟨fun _ hp => (k.obj i o hi ho hr).1.trans hp, (k.obj i o hi ho hr).2⟩, fun i sz l hi ho => by
    obtain ⟨l', h1, h2, h3⟩ := k.row i sz l hi ho
    exact ⟨l', h1, h2, fun he _ hp => (h3 he).trans hp⟩⟩

section
variable {n : Nat} {g g' : Gh} {H H' : Hp}
mutual
theorem Rep_keep (k : KeepW n g H g' H') : ∀ (v : V) (x : Value), v.und n = true → Rep g H v x → Rep g' H' v x
  | .d d, x, _, r => by simp only [Rep] at r ⊢; exact RepD_mono k.C r
  | .agg l, x, u, r => by
    simp only [Rep] at r ⊢
    obtain ⟨cs, rfl, r⟩ := r
    exact ⟨cs, rfl, RepVs_keep k l _ (by simpa only [V.und] using u) r⟩
  | .tup l, x, u, r => by
    simp only [Rep] at r ⊢
    obtain ⟨cs, rfl, r⟩ := r
    exact ⟨cs, rfl, RepTs_keep k l _ (by simpa only [V.und] using u) r⟩
  | .nils, x, _, r => by simpa only [Rep] using r
  | .row id len, x, u, r => by
    simp only [Rep] at r ⊢
    obtain ⟨a, cap, sz, l, rfl, ho, r1, r2⟩ := r
    simp only [V.und, decide_eq_true_eq] at u
    obtain ⟨l', h1, h2, h3⟩ := k.row id sz l u ho
    have hp := h2.length_le
    refine ⟨a, cap, sz, l', rfl, h1, by omega, fun he => ?_⟩
    have e := h3 (by omega)
    rcases r2 (by omega) with q | ⟨b, q1, q2⟩
    · exact .inl q
    · exact .inr ⟨b, e _ q1, q2⟩
  | .arr id off len, x, u, r => by
    simp only [Rep] at r ⊢
    obtain ⟨⟨o, ho, hr⟩, b, c, cap, h1, rfl, hlc⟩ := r
    simp only [V.und, decide_eq_true_eq] at u
    obtain ⟨e, q⟩ := k.obj id o u ho hr
    exact ⟨q, b, c, cap, e _ h1, rfl, hlc⟩
  | .ptr id off, x, u, r => by
    simp only [Rep] at r ⊢
    obtain ⟨⟨o, ho, hr⟩, b, c, h1, rfl⟩ := r
    simp only [V.und, decide_eq_true_eq] at u
    obtain ⟨e, q⟩ := k.obj id o u ho hr
    exact ⟨q, b, c, e _ h1, rfl⟩
  | .mp id, x, u, r => by
    simp only [Rep] at r ⊢
    obtain ⟨⟨o, ho, hr⟩, b, c, h1, rfl⟩ := r
    simp only [V.und, decide_eq_true_eq] at u
    obtain ⟨e, q⟩ := k.obj id o u ho hr
    exact ⟨q, b, c, e _ h1, rfl⟩
  | .ro l off, x, _, r => by
    simp only [Rep] at r ⊢
    obtain ⟨b, o, vs, rfl, h1, h2⟩ := r
    exact ⟨b, o, vs, rfl, h1.trans (prefix_drop (k.C b) o), RepDs_mono k.C _ _ h2⟩
  | .fn f c, x, u, r => by
    simp only [Rep] at r ⊢
    obtain ⟨cs, rfl, r⟩ := r
    exact ⟨cs, rfl, RepTs_keep k c _ (by simpa only [V.und] using u) r⟩
  | .nul, x, _, r => by simpa only [Rep] using r
  | .nof, x, _, r => by simpa only [Rep] using r
  | .ifc _, x, _, r => by simpa only [Rep] using r
  | .raw _, x, _, r => by simpa only [Rep] using r
  | .nmp, x, _, r => by simpa only [Rep] using r
  | .nile, x, _, r => by simpa only [Rep] using r
  | .undef, x, _, r => by simp only [Rep]
theorem RepVs_keep (k : KeepW n g H g' H') : ∀ (l : List V) (vs : List Value), undL n l = true → RepVs g H l vs → RepVs g' H' l vs
  | [], _, _, r => r
  | v :: l, vs, u, r => by
    simp only [RepVs] at r ⊢
    simp only [undL, Bool.and_eq_true] at u
    obtain ⟨y, ys, rfl, h1, h2, h3⟩ := r
    exact ⟨y, ys, rfl, h1, Rep_keep k v y u.1 h2, RepVs_keep k l ys u.2 h3⟩
theorem RepTs_keep (k : KeepW n g H g' H') : ∀ (l : List V) (vs : List Value), undL n l = true → RepTs g H l vs → RepTs g' H' l vs
  | [], _, _, r => r
  | v :: l, vs, u, r => by
    simp only [RepTs] at r ⊢
    simp only [undL, Bool.and_eq_true] at u
    obtain ⟨y, ys, rfl, h2, h3⟩ := r
    exact ⟨y, ys, rfl, Rep_keep k v y u.1 h2, RepTs_keep k l ys u.2 h3⟩
end
end
end Go.Vm
namespace Go.Vm

def Clean (n : Nat) (H : Hp) : Prop := ∀ i c, i < n → H[i]? = some (.box c) → undL n c = true

def RepM (C : Nat → List Value) (l : List (D × D)) (es : List MapEntry) : Prop := es.length = l.length ∧ ∀ (i : Nat) p e, l[i]? = some p → es[i]? = some e → RepD C p.1 e.key ∧ RepD C p.2 e.val ∧ e.born = i

def ObOk (g : Gh) (H : Hp) (w : World) (b cap : Nat) : Ob → Prop
  | .box c => ∃ cur e, w.heap[b]? = some (.cells cur e (0, 0)) ∧ RepVs g H c cur.toList ∧ g.C b = []
  | .frz c => RepDs g.C c (g.C b)
  | .map l => (∃ es : Array MapEntry, w.heap[b]? = some (.map es l.length) ∧ RepM g.C l es.toList) ∧ g.C b = []
  | .row sz l => ∃ cur e, w.heap[b]? = some (.cells cur e (0, 0)) ∧ RepEl g.C sz l (g.C b) ∧ 0 < sz ∧ l.length ≤ cap ∧ cur.size = cap * sz ∧ cap ≤ maxLen

def FixOk (cx : Cx) (g : Gh) (w : World) : Prop := ∀ i o, cx.fx i = some o → w.heap[i]? = some o ∧ ∀ k c, g.J k ≠ some (i, c)

structure Inv (cx : Cx) (g : Gh) (H : Hp) (w : World) : Prop where
  inj : ∀ i k b c c', g.J i = some (b, c) → g.J k = some (b, c') → i = k
  dom : ∀ i b c, g.J i = some (b, c) → i < H.length ∧ b < w.heap.size
  ob : ∀ i b c o, g.J i = some (b, c) → H[i]? = some o → ObOk g H w b c o
  imm : ∀ b, g.C b ≠ [] → ∃ cur e fz, w.heap[b]? = some (.cells cur e fz) ∧ g.C b <+: cur.toList
  und : Clean H.length H
  glob : ∀ i, ∃ vs, vs <+: g.C i ∧ RepDs g.C (cx.gv i) vs
  fix : FixOk cx g w

theorem FixOk.mono {cx : Cx} {g g' : Gh} {w w' : World} (h : FixOk cx g w) (hh : ∀ b, b < w.heap.size → (∀ k c, g.J k ≠ some (b, c)) → w'.heap[b]? = w.heap[b]? ∧ ∀ k c, g'.J k ≠ some (b, c)) : FixOk cx g' w' := fun i o hi => by
  obtain ⟨h1, h2⟩ := h i o hi
  obtain ⟨h3, h4⟩ := hh i (Array.getElem?_eq_some_iff.1 h1).1 h2
  exact ⟨h3.trans h1, h4⟩

structure Ext (nb : Nat) (g : Gh) (H : Hp) (w : World) (g' : Gh) (H' : Hp) (w' : World) : Prop where
  os : w'.os = w.os
  tape : w'.tape = w.tape
  output : w'.output = w.output
  size : w.heap.size ≤ w'.heap.size
  frame : ∀ b, b < w.heap.size → (∀ i c, g.J i ≠ some (b, c)) → w'.heap[b]? = w.heap[b]? ∧ g'.C b = g.C b
  keep : Keep H.length g H g' H'
  jnew : ∀ i b c, g'.J i = some (b, c) → b < w.heap.size → ∃ k c', g.J k = some (b, c')
  clean : ∀ n, n ≤ nb → Clean n H → Clean n H'
  len : H.length ≤ H'.length

theorem Ext.refl (nb : Nat) (g : Gh) (H : Hp) (w : World) : Ext nb g H w g H w :=
  ⟨rfl, rfl, rfl, Nat.le_refl _, fun _ _ _ => ⟨rfl, rfl⟩, Keep.refl _ _ _, fun i _ c h _ => ⟨i, c, h⟩, fun _ _ h => h, Nat.le_refl _⟩

theorem Ext.trans {nb nb' : Nat} {g g1 g2 : Gh} {H H1 H2 : Hp} {w w1 w2 : World} (h : Ext nb g H w g1 H1 w1) (k : Ext nb' g1 H1 w1 g2 H2 w2) (hb : nb ≤ nb') : Ext nb g H w g2 H2 w2 := by
  refine ⟨k.os.trans h.os, k.tape.trans h.tape, k.output.trans h.output, Nat.le_trans h.size k.size, fun b hb hj => ?_, h.keep.trans k.keep h.len, fun i b c hi hlt => ?_, fun n hn hc => k.clean n (by omega) (h.clean n hn hc), Nat.le_trans h.len k.len⟩
  · obtain ⟨a1, a2⟩ := h.frame b hb hj
    obtain ⟨b1, b2⟩ := k.frame b (Nat.lt_of_lt_of_le hb h.size) (fun i c hi => by
      obtain ⟨k', c', hk⟩ := h.jnew i b c hi hb
      exact hj k' c' hk)
    exact ⟨b1.trans a1, b2.trans a2⟩
  · obtain ⟨k1, c1, h1⟩ := k.jnew i b c hi (Nat.lt_of_lt_of_le hlt h.size)
    exact h.jnew k1 b c1 h1 hlt

theorem Ext.le {nb nb' : Nat} {g g' : Gh} {H H' : Hp} {w w' : World} (h : Ext nb g H w g' H' w') (hn : nb' ≤ nb) : Ext nb' g H w g' H' w' :=
  ⟨h.os, h.tape, h.output, h.size, h.frame, h.keep, h.jnew, fun n hn' => h.clean n (by omega), h.len⟩

def EnvOk (g : Gh) (H : Hp) (N : Nat) (e : Env) (t : Array Value) : Prop :=
  t.size = N ∧ ∀ i, i < N → Rep g H (getE e i) (t.getD i undef) ∧ (getE e i).und H.length = true

mutual
theorem V.und_le {n m : Nat} (h : n ≤ m) : ∀ v : V, v.und n = true → v.und m = true
  | .d _, _ => rfl
  | .agg l, u => by simp only [V.und] at u ⊢; exact undL_le h l u
  | .tup l, u => by simp only [V.und] at u ⊢; exact undL_le h l u
  | .nils, _ => rfl
  | .row id _, u => by simp only [V.und, decide_eq_true_eq] at u ⊢; omega
  | .arr id _ _, u => by simp only [V.und, decide_eq_true_eq] at u ⊢; omega
  | .ptr id _, u => by simp only [V.und, decide_eq_true_eq] at u ⊢; omega
  | .mp id, u => by simp only [V.und, decide_eq_true_eq] at u ⊢; omega
  | .ro _ _, _ => rfl
  | .fn _ l, u => by simp only [V.und] at u ⊢; exact undL_le h l u
  | .nul, _ => rfl
  | .nof, _ => rfl
  | .ifc _, _ => rfl
  | .raw _, _ => rfl
  | .nmp, _ => rfl
  | .nile, _ => rfl
  | .undef, _ => rfl
theorem undL_le {n m : Nat} (h : n ≤ m) : ∀ l : List V, undL n l = true → undL m l = true
  | [], _ => rfl
  | v :: l, u => by
    simp only [undL, Bool.and_eq_true] at u ⊢
    exact ⟨V.und_le h v u.1, undL_le h l u.2⟩
end

theorem EnvOk.ext {nb : Nat} {g g' : Gh} {H H' : Hp} {w w' : World} {N : Nat} {e : Env} {t : Array Value} (h : EnvOk g H N e t) (x : Ext nb g H w g' H' w') : EnvOk g' H' N e t :=
  ⟨h.1, fun i hi => ⟨Rep_keep x.keep.w _ _ (h.2 i hi).2 (h.2 i hi).1, V.und_le x.len _ (h.2 i hi).2⟩⟩

def setT (d : Option Nat) (x : Value) (t : Array Value) : Array Value := match d with | some d => t.setIfInBounds d x | none => t

theorem EnvOk.put {g : Gh} {H : Hp} {N : Nat} {e : Env} {t : Array Value} (h : EnvOk g H N e t) {d : Option Nat} {v : V} {x : Value} (hd : ∀ k, d = some k → k < N) (hr : Rep g H v x) (hu : v.und H.length = true) :
    EnvOk g H N (putE d v e) (setT d x t) := by
  cases d with
  | none => exact h
  | some k =>
    simp only [setT]
    refine ⟨by simpa using h.1, fun i hi => ?_⟩
    have hk := hd k rfl
    simp only [putE, getE]
    by_cases hki : k = i
    · subst hki
      rw [if_pos rfl]
      have : (t.setIfInBounds k x).getD k undef = x := by simp [Array.getD, h.1, hi]
      rw [this]
      exact ⟨hr, hu⟩
    · rw [if_neg hki]
      have : (t.setIfInBounds k x).getD i undef = t.getD i undef := by
        simp only [Array.getD_eq_getD_getElem?, Array.getElem?_setIfInBounds]
        rw [if_neg hki]
      rw [this]
      exact h.2 i hi

end Go.Vm
