import Derived.Test.YtpgpjenfnbcclaaVmFix
set_option linter.unusedSimpArgs false
set_option linter.unusedVariables false
namespace Go.Vm
section
variable (pg : Pg)

def blk (id : Nat) (r : Option (Ex × St)) : Option (Ex × St) :=
  match r with
  | some (.exit i, s) => if i = id then some (.nrm, s) else some (.exit i, s)
  | r => r

def cnd (v : V) (x y : Option (Ex × St)) : Option (Ex × St) :=
  match v with
  | .d (.bool t) => if t then x else y
  | _ => none

def nrm (r : Option St) : Option (Ex × St) := r.map fun s => (.nrm, s)

def nwr (sz t : Nat) (s : St) (v : V) : Option (Ex × St) := match v with
  | .nils => if 0 < sz then some (.nrm, ⟨(t, .row s.h.length 0) :: s.e, s.h ++ [.row sz []], s.b⟩) else none
  | _ => none
@[simp] theorem nwr_nils (sz t : Nat) (s : St) : nwr sz t s .nils = if 0 < sz then some (.nrm, ⟨(t, .row s.h.length 0) :: s.e, s.h ++ [.row sz []], s.b⟩) else none := rfl
def rnd (b : Nat) (r : Option (Ex × St)) (k : St → Option (Ex × St)) : Option (Ex × St) :=
  match r with
  | some (.nrm, s) => k s
  | some (x, s) => some (x, ⟨s.e, s.h, b⟩)
  | none => none
@[simp] theorem rnd_nrm (b : Nat) (s : St) (k) : rnd b (some (.nrm, s)) k = k s := rfl
@[simp] theorem rnd_exit (b i : Nat) (s : St) (k) : rnd b (some (.exit i, s)) k = some (.exit i, ⟨s.e, s.h, b⟩) := rfl
@[simp] theorem rnd_ret (b : Nat) (s : St) (k) : rnd b (some (.ret, s)) k = some (.ret, ⟨s.e, s.h, b⟩) := rfl
@[simp] theorem rnd_ite (b : Nat) (c : Prop) [Decidable c] (x y) (k) : rnd b (if c then x else y) k = if c then rnd b x k else rnd b y k := by split <;> rfl

@[simp] theorem sq_nrm (s : St) (k) : sq (some (.nrm, s)) k = k s := rfl
@[simp] theorem sq_exit (i : Nat) (s : St) (k) : sq (some (.exit i, s)) k = some (.exit i, s) := rfl
@[simp] theorem sq_ret (s : St) (k) : sq (some (.ret, s)) k = some (.ret, s) := rfl
@[simp] theorem sq_none (k) : sq none k = none := rfl
@[simp] theorem sq_ite (c : Prop) [Decidable c] (x y) (k) : sq (if c then x else y) k = if c then sq x k else sq y k := by split <;> rfl
@[simp] theorem blk_nrm (id : Nat) (s : St) : blk id (some (.nrm, s)) = some (.nrm, s) := rfl
@[simp] theorem blk_ret (id : Nat) (s : St) : blk id (some (.ret, s)) = some (.ret, s) := rfl
@[simp] theorem blk_none (id : Nat) : blk id none = none := rfl
@[simp] theorem blk_exit (id i : Nat) (s : St) : blk id (some (.exit i, s)) = if i = id then some (.nrm, s) else some (.exit i, s) := rfl
@[simp] theorem blk_ite (id : Nat) (c : Prop) [Decidable c] (x y) : blk id (if c then x else y) = if c then blk id x else blk id y := by split <;> rfl
@[simp] theorem cnd_bool (t : Bool) (x y) : cnd (.d (.bool t)) x y = if t then x else y := rfl
@[simp] theorem nrm_some (s : St) : nrm (some s) = some (.nrm, s) := rfl
@[simp] theorem nrm_none : nrm none = none := rfl

@[simp] theorem ev_skip (s : St) : ev pg .skip s = some (.nrm, s) := rfl
@[simp] theorem ev_exit (i : Nat) (s : St) : ev pg (.exit i) s = some (.exit i, s) := rfl
@[simp] theorem ev_ret (s : St) : ev pg .ret s = some (.ret, s) := rfl
@[simp] theorem ev_seq (a b : VCode) (s : St) : ev pg (.seq a b) s = sq (ev pg a s) (ev pg b) := rfl
@[simp] theorem ev_cond (c : Opd) (a b : VCode) (s : St) : ev pg (.cond c a b) s = cnd (evO pg.toCx s.e c) (ev pg a s) (ev pg b s) := rfl
@[simp] theorem ev_block (id : Nat) (b : VCode) (s : St) : ev pg (.block id b) s = blk id (ev pg b s) := rfl
@[simp] theorem ev_scope (b : VCode) (s : St) : ev pg (.scope b) s = ev pg b s := rfl
@[simp] theorem ev_newrow (sz t : Nat) (s : St) : ev pg (.newrow sz t) s = nwr sz t s (getE s.e t) := rfl

noncomputable def evR (ops : List VOper) (s : St) : Option St := evOps pg.toCx (evF pg) ops s
noncomputable def evD (m : Nat) (ops : List VOper) (s : St) : Option St := evDraw pg.toCx (evF pg) m ops s
noncomputable def ev1 (o : VOp) (s : St) : Option (V × Hp) := evOp pg.toCx (evF pg) s.b s.e s.h o

@[simp] theorem ev_reg (ops : List VOper) (s : St) : ev pg (.reg ops) s = nrm (evR pg ops s) := rfl
@[simp] theorem ev_draw (m : Nat) (ops : List VOper) (s : St) : ev pg (.draw m ops) s = nrm (evD pg m ops s) := rfl
theorem ev_loop (k : List Nat) (b : VCode) (s : St) : ev pg (.loop k b) s = rnd s.b (ev pg b ⟨keepE k s.e, s.h, s.h.length⟩) (fun s' => ev pg (.loop k b) ⟨cut s.h.length (keepE k s'.e), s'.h.take s.h.length, s.b⟩) := by
  conv => lhs; simp only [ev, evC]
  rw [ev]
  cases hx : evC pg.toCx (evF pg) (evL pg) b ⟨keepE k s.e, s.h, s.h.length⟩ with
  | none => rfl
  | some q => obtain ⟨x, s'⟩ := q; cases x <;> first | rfl | exact evL_eq ..

@[simp] theorem lay_some (dst : Option Nat) (e : Env) (b : Nat) (v : V) (h : Hp) : lay dst e b (some (v, h)) = some ⟨putE dst v e, h, b⟩ := rfl
@[simp] theorem lay_none (dst : Option Nat) (e : Env) (b : Nat) : lay dst e b none = none := rfl

@[simp] theorem grd_tup (b : Bool) (dst : Option Nat) (s : St) (r) : grd (.tup []) b dst s r = some ⟨putE dst (.tup []) s.e, s.h, s.b⟩ := rfl
@[simp] theorem grd_bool (t b : Bool) (dst : Option Nat) (s : St) (r) : grd (.d (.bool t)) b dst s r = if t = b then lay dst s.e s.b r else some ⟨putE dst (.tup []) s.e, s.h, s.b⟩ := rfl

def bnd (r : Option St) (k : St → Option St) : Option St := r.bind k
@[simp] theorem bnd_some (s : St) (k) : bnd (some s) k = k s := rfl
@[simp] theorem bnd_none (k) : bnd none k = none := rfl
@[simp] theorem bnd_ite (c : Prop) [Decidable c] (x y) (k) : bnd (if c then x else y) k = if c then bnd x k else bnd y k := by split <;> rfl
@[simp] theorem nrm_ite (c : Prop) [Decidable c] (x y) : nrm (if c then x else y) = if c then nrm x else nrm y := by split <;> rfl

@[simp] theorem evR_nil (s : St) : evR pg [] s = some s := rfl
@[simp] theorem evR_cons (d : Option Nat) (o : VOp) (r : List VOper) (s : St) : evR pg (⟨d, o, none⟩ :: r) s = bnd (lay d s.e s.b (ev1 pg o s)) (evR pg r) := rfl
@[simp] theorem evR_guard (d : Option Nat) (o : VOp) (g : Nat) (b : Bool) (r : List VOper) (s : St) : evR pg (⟨d, o, some (g, b)⟩ :: r) s = bnd (grd (getE s.e g) b d s (ev1 pg o s)) (evR pg r) := rfl

@[simp] theorem getE_cons (k i : Nat) (v : V) (r : Env) : getE ((k, v) :: r) i = if k = i then v else getE r i := rfl
@[simp] theorem getE_nil (i : Nat) : getE [] i = .undef := rfl
@[simp] theorem putE_some (d : Nat) (v : V) (e : Env) : putE (some d) v e = (d, v) :: e := rfl
@[simp] theorem putE_none (v : V) (e : Env) : putE none v e = e := rfl
@[simp] theorem evO_t (cx : Cx) (e : Env) (i : Nat) : evO cx e (.t i) = getE e i := rfl
@[simp] theorem evO_c (cx : Cx) (e : Env) (v : V) : evO cx e (.c v) = v := rfl
@[simp] theorem evO_f (cx : Cx) (e : Env) (i : Nat) : evO cx e (.f i) = .fn i [] := rfl

@[simp] theorem toArg_d (H : Hp) (x : D) : toArg H (.d x) = .d x := by simp [toArg, toD, toD1]
@[simp] theorem toArg_nils (H : Hp) : toArg H .nils = .d (.sl []) := by simp [toArg, toD, toD1]
@[simp] theorem toArg_ptr (H : Hp) (i o : Nat) : toArg H (.ptr i o) = .ptr i o := by simp [toArg, toD, toD1]
@[simp] theorem toArg_fn (H : Hp) (f : Nat) (c : List V) : toArg H (.fn f c) = .fn f c := by simp [toArg, toD, toD1]
@[simp] theorem und_d (n : Nat) (x : D) : V.und n (.d x) = true := rfl
@[simp] theorem und_fn (n f : Nat) (c : List V) : V.und n (.fn f c) = undL n c := by simp [V.und]
@[simp] theorem und_tup (n : Nat) (c : List V) : V.und n (.tup c) = undL n c := by simp [V.und]
@[simp] theorem und_agg (n : Nat) (c : List V) : V.und n (.agg c) = undL n c := by simp [V.und]
@[simp] theorem und_ro (n : Nat) (l : List D) (o : Nat) : V.und n (.ro l o) = true := rfl
@[simp] theorem und_nul (n : Nat) : V.und n .nul = true := rfl
@[simp] theorem und_nils (n : Nat) : V.und n .nils = true := rfl
@[simp] theorem und_undef (n : Nat) : V.und n .undef = true := rfl
@[simp] theorem und_ptr (n i o : Nat) : V.und n (.ptr i o) = decide (i < n) := by simp [V.und]
@[simp] theorem und_row (n i o : Nat) : V.und n (.row i o) = decide (i < n) := by simp [V.und]
@[simp] theorem und_arr (n i o l : Nat) : V.und n (.arr i o l) = decide (i < n) := by simp [V.und]
@[simp] theorem undL_nil (n : Nat) : undL n [] = true := rfl
@[simp] theorem undL_cons (n : Nat) (v : V) (l : List V) : undL n (v :: l) = (v.und n && undL n l) := by simp [undL]
@[simp] theorem cells_int (k : IntKind) (n : Int) : (V.d (.int k n)).cells = [.d (.int k n)] := rfl
@[simp] theorem cells_bool (b : Bool) : (V.d (.bool b)).cells = [.d (.bool b)] := rfl
@[simp] theorem cells_str (s : List UInt8) : (V.d (.str s)).cells = [.d (.str s)] := rfl
@[simp] theorem cells_sl (s : List D) : (V.d (.sl s)).cells = [.d (.sl s)] := rfl
@[simp] theorem cells_dagg (s : List D) : (V.d (.agg s)).cells = s.map V.d := rfl
@[simp] theorem cells_agg (s : List V) : (V.agg s).cells = s := rfl
@[simp] theorem cells_nils : V.nils.cells = [.nils] := rfl
@[simp] theorem cells_ptr (i o : Nat) : (V.ptr i o).cells = [.ptr i o] := rfl
@[simp] theorem cells_row (i o : Nat) : (V.row i o).cells = [.row i o] := rfl
@[simp] theorem cells_fn (f : Nat) (c : List V) : (V.fn f c).cells = [.fn f c] := rfl
@[simp] theorem cells_nul : V.nul.cells = [.nul] := rfl
@[simp] theorem dcells_int (k : IntKind) (n : Int) : (D.int k n).cells = [.int k n] := rfl
@[simp] theorem dcells_bool (b : Bool) : (D.bool b).cells = [.bool b] := rfl
@[simp] theorem dcells_str (s : List UInt8) : (D.str s).cells = [.str s] := rfl
@[simp] theorem dcells_sl (s : List D) : (D.sl s).cells = [.sl s] := rfl
@[simp] theorem dcells_agg (s : List D) : (D.agg s).cells = s := rfl
@[simp] theorem one_int (k : IntKind) (n : Int) : (V.d (.int k n)).one = true := rfl
@[simp] theorem one_bool (b : Bool) : (V.d (.bool b)).one = true := rfl
@[simp] theorem one_str (s : List UInt8) : (V.d (.str s)).one = true := rfl
@[simp] theorem one_sl (s : List D) : (V.d (.sl s)).one = true := rfl
@[simp] theorem one_nils : V.nils.one = true := rfl
@[simp] theorem one_ptr (i o : Nat) : (V.ptr i o).one = true := rfl
@[simp] theorem one_row (i o : Nat) : (V.row i o).one = true := rfl
@[simp] theorem one_fn (f : Nat) (c : List V) : (V.fn f c).one = true := rfl
@[simp] theorem one_nul : V.nul.one = true := rfl

@[simp] theorem ev1_mv (x : Opd) (s : St) : ev1 pg (.mv x) s = some (evO pg.toCx s.e x, s.h) := rfl
def pickV (c a b : V) (h : Hp) : Option (V × Hp) := match c with | .d (.bool t) => some (if t then a else b, h) | _ => none
@[simp] theorem ev1_pick (c a b : Opd) (s : St) : ev1 pg (.pick c a b) s = pickV (evO pg.toCx s.e c) (evO pg.toCx s.e a) (evO pg.toCx s.e b) s.h := rfl
@[simp] theorem pickV_bool (t a b : Bool) (h : Hp) : pickV (.d (.bool t)) (.d (.bool a)) (.d (.bool b)) h = some (.d (.bool (if t then a else b)), h) := by cases t <;> rfl
@[simp] theorem pickV_skip (t a : Bool) (h : Hp) : pickV (.d (.bool t)) (.tup []) (.d (.bool a)) h = some (if t then .tup [] else .d (.bool a), h) := by cases t <;> rfl
def one (h : Hp) (r : Option V) : Option (V × Hp) := r.map fun v => (v, h)
@[simp] theorem one_some (h : Hp) (v : V) : one h (some v) = some (v, h) := rfl
@[simp] theorem one_none (h : Hp) : one h none = none := rfl
@[simp] theorem ev1_bin (op : BinOp) (x y : Opd) (s : St) : ev1 pg (.bin op x y) s = one s.h (binV op (evO pg.toCx s.e x) (evO pg.toCx s.e y)) := rfl
@[simp] theorem ev1_un (op : UnOp) (x : Opd) (s : St) : ev1 pg (.un op x) s = one s.h (unV op (evO pg.toCx s.e x)) := rfl
@[simp] theorem ev1_zbox (z : List V) (s : St) : ev1 pg (.zbox z) s = some (.ptr s.h.length 0, s.h ++ [.box z]) := rfl
def boxV (v : V) (h : Hp) : Option (V × Hp) := if v.cells.all V.one then some (.ptr h.length 0, h ++ [.box v.cells]) else none
@[simp] theorem ev1_box (x : Opd) (s : St) : ev1 pg (.box x) s = boxV (evO pg.toCx s.e x) s.h := rfl
@[simp] theorem ev1_ld (n : Option Nat) (x : Opd) (s : St) : ev1 pg (.ld n x) s = one s.h (loadV s.h n (evO pg.toCx s.e x)) := rfl
def und1 (r : Option Hp) : Option (V × Hp) := r.map fun h => (.undef, h)
@[simp] theorem und1_some (h : Hp) : und1 (some h) = some (.undef, h) := rfl
@[simp] theorem ev1_st (n : Nat) (a x : Opd) (s : St) : ev1 pg (.st n a x) s = und1 (storeV s.b s.h n (evO pg.toCx s.e a) (evO pg.toCx s.e x)) := rfl
def convV (k : IntKind) (v : V) : Option V := match v with | .d (.int _ n) => some (.d (.int k (k.wrap n))) | _ => none
@[simp] theorem convV_int (k k' : IntKind) (n : Int) : convV k (.d (.int k' n)) = some (.d (.int k (k.wrap n))) := rfl
@[simp] theorem ev1_conv (k : IntKind) (x : Opd) (s : St) : ev1 pg (.conv k x) s = one s.h (convV k (evO pg.toCx s.e x)) := by
  simp only [ev1, evOp]
  generalize evO pg.toCx s.e x = v
  unfold convV
  split <;> first | rfl | (rename_i h; split; rename_i h2; exact absurd rfl (h _ _); rfl)
def eqbV (neg : Bool) (a b : V) (h : Hp) : Option (V × Hp) := match a, b with | .d (.bool a), .d (.bool b) => some (.d (.bool (if neg then !(a == b) else a == b)), h) | _, _ => none
@[simp] theorem eqbV_t (a b : Bool) (h : Hp) : eqbV true (.d (.bool a)) (.d (.bool b)) h = some (.d (.bool !(a == b)), h) := rfl
@[simp] theorem eqbV_f (a b : Bool) (h : Hp) : eqbV false (.d (.bool a)) (.d (.bool b)) h = some (.d (.bool (a == b)), h) := rfl
@[simp] theorem ev1_eqb (neg : Bool) (x y : Opd) (s : St) : ev1 pg (.eqb neg x y) s = eqbV neg (evO pg.toCx s.e x) (evO pg.toCx s.e y) s.h := rfl
def eqaV (neg : Bool) (ks : List Nat) (a b : V) (h : Hp) : Option (V × Hp) := match a, b with | .d (.agg a), .d (.agg b) => if kindOk ks a b then some (.d (.bool (if neg then !eqL a b else eqL a b)), h) else none | _, _ => none
@[simp] theorem eqaV_agg (neg : Bool) (ks : List Nat) (a b : List D) (h : Hp) : eqaV neg ks (.d (.agg a)) (.d (.agg b)) h = if kindOk ks a b then some (.d (.bool (if neg then !eqL a b else eqL a b)), h) else none := rfl
@[simp] theorem ev1_eqa (neg : Bool) (ks : List Nat) (x y : Opd) (s : St) : ev1 pg (.eqa neg ks x y) s = eqaV neg ks (evO pg.toCx s.e x) (evO pg.toCx s.e y) s.h := rfl
@[simp] theorem ev1_mkfn (f : Nat) (caps : List Opd) (s : St) : ev1 pg (.mkfn f caps) s = some (.fn f (caps.map (evO pg.toCx s.e)), s.h) := rfl
def fldV (off : Nat) (n : Option Nat) (v : V) : Option V := match v with | .d (.agg c) => partV n (c.map V.d) off | .agg c => partV n c off | _ => none
@[simp] theorem fldV_d (off : Nat) (n : Option Nat) (c : List D) : fldV off n (.d (.agg c)) = partV n (c.map V.d) off := rfl
@[simp] theorem fldV_a (off : Nat) (n : Option Nat) (c : List V) : fldV off n (.agg c) = partV n c off := rfl
@[simp] theorem ev1_fld (off : Nat) (n : Option Nat) (x : Opd) (s : St) : ev1 pg (.fld off n x) s = one s.h (fldV off n (evO pg.toCx s.e x)) := by
  simp only [ev1, evOp]
  generalize evO pg.toCx s.e x = v
  cases v with
  | d y => cases y <;> rfl
  | _ => rfl
def fadV (off : Nat) (v : V) : Option V := match v with | .ptr id o => some (.ptr id (o + off)) | .ro l o => some (.ro l (o + off)) | _ => none
@[simp] theorem fadV_ptr (off id o : Nat) : fadV off (.ptr id o) = some (.ptr id (o + off)) := rfl
@[simp] theorem fadV_ro (off o : Nat) (l : List D) : fadV off (.ro l o) = some (.ro l (o + off)) := rfl
@[simp] theorem ev1_fadr (off : Nat) (x : Opd) (s : St) : ev1 pg (.fadr off x) s = one s.h (fadV off (evO pg.toCx s.e x)) := by
  simp only [ev1, evOp]
  generalize evO pg.toCx s.e x = v
  cases v <;> rfl
@[simp] theorem ev1_ext (x : Opd) (i : Nat) (s : St) : ev1 pg (.ext x i) s = one s.h (match evO pg.toCx s.e x with | .tup l => l[i]? | _ => none) := by
  simp only [ev1, evOp]
  generalize evO pg.toCx s.e x = v
  cases v <;> rfl
@[simp] theorem ev1_call (f : Nat) (args : List Opd) (s : St) : ev1 pg (.call f args) s = evF pg f (args.map fun x => toArg s.h (evO pg.toCx s.e x)) s.h := rfl
noncomputable def callV (v : V) (args : List V) (h : Hp) : Option (V × Hp) := match v with | .fn f c => evF pg f (args ++ c) h | _ => none
@[simp] theorem callV_fn (f : Nat) (c args : List V) (h : Hp) : callV pg (.fn f c) args h = evF pg f (args ++ c) h := rfl
@[simp] theorem ev1_callv (f : Opd) (args : List Opd) (s : St) : ev1 pg (.callv f args) s = callV pg (evO pg.toCx s.e f) (args.map fun x => toArg s.h (evO pg.toCx s.e x)) s.h := by
  simp only [ev1, evOp]
  generalize evO pg.toCx s.e f = v
  cases v <;> rfl
@[simp] theorem ev1_bslice (sz len : Nat) (ps : List Opd) (s : St) : ev1 pg (.bslice sz len ps) s = match evOp.toDs' pg.toCx s.e s.h ps with
    | some l => if l.length = len ∧ l.all (fun x => x.cells.length == sz) ∧ 0 < sz ∧ len * sz ≤ 16777216 then some (.d (.sl l), s.h) else none
    | none => none := rfl
def iadrV (sz : Nat) (x : V) (i : Option Nat) (h : Hp) : Option (V × Hp) := match i with
    | none => none
    | some n => match x with
      | .arr id off len => if n < len then some (.ptr id (off + n * sz), h) else none
      | v => match lsize h v with
        | some l => match l[n]? with
          | some y => if y.cells.length = sz then some (.ro y.cells 0, h) else none
          | none => none
        | none => none
@[simp] theorem ev1_iadr (sz : Nat) (x i : Opd) (s : St) : ev1 pg (.iadr sz x i) s = iadrV sz (evO pg.toCx s.e x) (idxNat (evO pg.toCx s.e i)) s.h := rfl
def elV (sz : Nat) (y : Option D) (h : Hp) : Option (V × Hp) := match y with | some y => if y.cells.length = sz then some (.ro y.cells 0, h) else none | none => none
@[simp] theorem elV_some (sz : Nat) (y : D) (h : Hp) : elV sz (some y) h = if y.cells.length = sz then some (.ro y.cells 0, h) else none := rfl
@[simp] theorem elV_none (sz : Nat) (h : Hp) : elV sz none h = none := rfl
@[simp] theorem iadrV_sl (sz n : Nat) (l : List D) (h : Hp) : iadrV sz (.d (.sl l)) (some n) h = elV sz l[n]? h := by
  simp only [iadrV, lsize, toD1, elV]
def iadraV (len sz : Nat) (x : V) (i : Option Nat) (h : Hp) : Option (V × Hp) := match i with
    | none => none
    | some n => if n < len then match x with
      | .ptr id o => some (.ptr id (o + n * sz), h)
      | .ro l o => some (.ro l (o + n * sz), h)
      | _ => none else none
@[simp] theorem iadraV_ro (len sz n o : Nat) (l : List D) (h : Hp) : iadraV len sz (.ro l o) (some n) h = if n < len then some (.ro l (o + n * sz), h) else none := rfl
@[simp] theorem iadraV_ptr (len sz n o id : Nat) (h : Hp) : iadraV len sz (.ptr id o) (some n) h = if n < len then some (.ptr id (o + n * sz), h) else none := rfl
@[simp] theorem ev1_iadra (len sz : Nat) (x i : Opd) (s : St) : ev1 pg (.iadra len sz x i) s = iadraV len sz (evO pg.toCx s.e x) (idxNat (evO pg.toCx s.e i)) s.h := rfl
@[simp] theorem evO_g (cx : Cx) (e : Env) (i : Nat) : evO cx e (.g i) = .ro (cx.gv i) 0 := rfl

theorem grew_self (h : Hp) : grew h h = true := by simp [grew, newOk]
@[simp] theorem evD_zero (l : List VOper) (s : St) : evD pg 0 l s = evR pg l s := by cases l <;> rfl
@[simp] theorem evD_end (m : Nat) (s : St) : evD pg m [] s = some s := by cases m <;> rfl
noncomputable def dnd (d : Option Nat) (h : Hp) (r : Option St) (k : St → Option St) : Option St := r.bind fun s => if (grew h s.h && dstOk d s) = true then k s else none
@[simp] theorem dnd_some (d : Option Nat) (h : Hp) (s : St) (k) : dnd d h (some s) k = if (grew h s.h && dstOk d s) = true then k s else none := rfl
@[simp] theorem dnd_none (d : Option Nat) (h : Hp) (k) : dnd d h none k = none := rfl
@[simp] theorem dnd_ite (d : Option Nat) (h : Hp) (c : Prop) [Decidable c] (x y) (k) : dnd d h (if c then x else y) k = if c then dnd d h x k else dnd d h y k := by split <;> rfl
@[simp] theorem dstOk_none (s : St) : dstOk none s = true := rfl
@[simp] theorem dstOk_some (d : Nat) (s : St) : dstOk (some d) s = (getE s.e d).und s.h.length := rfl
@[simp] theorem evD_cons (m : Nat) (d : Option Nat) (o : VOp) (r : List VOper) (s : St) : evD pg (m + 1) (⟨d, o, none⟩ :: r) s = dnd d s.h (lay d s.e s.b (ev1 pg o s)) (evD pg m r) := rfl
@[simp] theorem evD_guard (m : Nat) (d : Option Nat) (o : VOp) (g : Nat) (b : Bool) (r : List VOper) (s : St) : evD pg (m + 1) (⟨d, o, some (g, b)⟩ :: r) s = dnd d s.h (grd (getE s.e g) b d s (ev1 pg o s)) (evD pg m r) := rfl

def leaveE (keep : Bool) (res : List VRes) (n : Nat) (r : Option (Ex × St)) : Option (V × Hp) := match r with
  | some (.nrm, s) | some (.ret, s) => leave ⟨0, 0, .skip, res, keep⟩ n s
  | _ => none
@[simp] theorem leaveE_ret (keep res n s) : leaveE keep res n (some (.ret, s)) = leave ⟨0, 0, .skip, res, keep⟩ n s := rfl
@[simp] theorem leaveE_nrm (keep res n s) : leaveE keep res n (some (.nrm, s)) = leave ⟨0, 0, .skip, res, keep⟩ n s := rfl
@[simp] theorem leaveE_ite (keep res n) (c : Prop) [Decidable c] (x y) : leaveE keep res n (if c then x else y) = if c then leaveE keep res n x else leaveE keep res n y := by split <;> rfl
theorem bodyF_eq (vf : VFn) (a : List V) (h : Hp) : bodyF pg vf a h = leaveE vf.keep vf.res h.length (ev pg vf.body ⟨enterE a, h, h.length⟩) := rfl
theorem evF_of {pg : Pg} {f : Nat} {vf : VFn} (ht : pg.tbl f = some (.code vf)) {a : List V} (hn : a.length = vf.np) (hu : (undL 0 a && !vf.keep) = true) {r : V} {h' : Hp} (hb : leaveE vf.keep vf.res 0 (ev pg vf.body ⟨enterE a, [], 0⟩) = some (r, h')) (H : Hp) : evF pg f a H = some (r, H) := by
  rw [evF_code ht, if_pos hn, hu]
  simp only [bare]
  rw [bodyF_eq]
  simp only [List.length_nil]
  rw [hb]; rfl
theorem evF_on {pg : Pg} {f : Nat} {vf : VFn} (ht : pg.tbl f = some (.code vf)) {a : List V} (hn : a.length = vf.np) {H : Hp} (hu : (undL 0 a && !vf.keep) = false) : evF pg f a H = leaveE vf.keep vf.res H.length (ev pg vf.body ⟨enterE a, H, H.length⟩) := by
  rw [evF_code ht, if_pos hn, hu]
  rfl
def buildV (z : List V) (qs : List (Nat × Nat × V)) (h : Hp) : Option (V × Hp) := if qs.all (fun q => q.2.2.cells.all V.one) then (fillV z qs).map fun c => (mkAgg c, h) else none
@[simp] theorem ev1_build (z : List V) (ps : List (Nat × Nat × Opd)) (s : St) : ev1 pg (.build z ps) s = buildV z (ps.map fun p => (p.1, p.2.1, evO pg.toCx s.e p.2.2)) s.h := by
  simp only [ev1, evOp, buildV, List.all_map, Function.comp_def]
@[simp] theorem fillV_nil (z : List V) : fillV z [] = some z := rfl
@[simp] theorem fillV_cons (z : List V) (off n : Nat) (v : V) (r : List (Nat × Nat × V)) : fillV z ((off, n, v) :: r) = if v.cells.length = n ∧ off + n ≤ z.length then fillV (putAt z off v.cells) r else none := rfl
def dcons (x : Option D) (l : Option (List D)) : Option (List D) := match x, l with | some y, some ys => some (y :: ys) | _, _ => none
@[simp] theorem dcons_some (x : D) (l : List D) : dcons (some x) (some l) = some (x :: l) := rfl
@[simp] theorem toDs'_nil (cx : Cx) (e : Env) (H : Hp) : evOp.toDs' cx e H [] = some [] := rfl
@[simp] theorem toDs'_cons (cx : Cx) (e : Env) (H : Hp) (x : Opd) (r : List Opd) : evOp.toDs' cx e H (x :: r) = dcons (toD H (evO cx e x)) (evOp.toDs' cx e H r) := rfl
@[simp] theorem toD_d (H : Hp) (x : D) : toD H (.d x) = some x := by simp [toD, toD1]
@[simp] theorem toD_nils (H : Hp) : toD H .nils = some (.sl []) := by simp [toD, toD1]
@[simp] theorem toD1_d (H : Hp) (x : D) : toD1 H (.d x) = some x := by simp [toD1]
@[simp] theorem toD1_nils (H : Hp) : toD1 H .nils = some (.sl []) := by simp [toD1]
def rowD (o : Option Ob) (len : Nat) : Option D := match o with | some (.row _ l) => if l.length = len then some (.sl l) else none | _ => none
@[simp] theorem rowD_row (sz len : Nat) (l : List D) : rowD (some (.row sz l)) len = if l.length = len then some (.sl l) else none := rfl
@[simp] theorem toD1_row (H : Hp) (id len : Nat) : toD1 H (.row id len) = rowD H[id]? len := rfl
@[simp] theorem toD_row (H : Hp) (id len : Nat) : toD H (.row id len) = rowD H[id]? len := rfl
def argOf (o : Option D) (v : V) : V := match o with | some x => .d x | none => v
@[simp] theorem argOf_some (x : D) (v : V) : argOf (some x) v = .d x := rfl
@[simp] theorem argOf_none (v : V) : argOf none v = v := rfl
@[simp] theorem toArg_row (H : Hp) (id len : Nat) : toArg H (.row id len) = argOf (rowD H[id]? len) (.row id len) := rfl
def idxV (i : Option Nat) (v : V) (h : Hp) : Option (V × Hp) := match i, v with | some n, .d (.str s) => (s[n]?).map fun b => (.d (.int .u8 b.toNat), h) | _, _ => none
@[simp] theorem idxV_some (n : Nat) (s : List UInt8) (h : Hp) : idxV (some n) (.d (.str s)) h = (s[n]?).map fun b => (.d (.int .u8 b.toNat), h) := rfl
@[simp] theorem ev1_idx (x i : Opd) (s : St) : ev1 pg (.idx x i) s = idxV (idxNat (evO pg.toCx s.e i)) (evO pg.toCx s.e x) s.h := rfl
def slcsV (v : V) (lo : Option Nat) (hi : Nat → Option Nat) (h : Hp) : Option (V × Hp) := match v, lo with
    | .d (.str s), some l => match hi s.length with
      | some k => if l ≤ k ∧ k ≤ s.length then some (.d (.str ((s.take k).drop l)), h) else none
      | none => none
    | _, _ => none
@[simp] theorem ev1_slcs (x : Opd) (lo hi : Option Opd) (s : St) : ev1 pg (.slcs x lo hi) s = slcsV (evO pg.toCx s.e x) (evOp.bound pg.toCx s.e 0 lo) (fun d => evOp.bound pg.toCx s.e d hi) s.h := rfl
def slcsK (s : List UInt8) (l : Nat) (k : Option Nat) (h : Hp) : Option (V × Hp) := match k with | some k => if l ≤ k ∧ k ≤ s.length then some (.d (.str ((s.take k).drop l)), h) else none | none => none
@[simp] theorem slcsV_some (s : List UInt8) (l : Nat) (hi : Nat → Option Nat) (h : Hp) : slcsV (.d (.str s)) (some l) hi h = slcsK s l (hi s.length) h := rfl
@[simp] theorem slcsK_some (s : List UInt8) (l k : Nat) (h : Hp) : slcsK s l (some k) h = if l ≤ k ∧ k ≤ s.length then some (.d (.str ((s.take k).drop l)), h) else none := rfl
@[simp] theorem bound_none (cx : Cx) (e : Env) (d : Nat) : evOp.bound cx e d none = some d := rfl
@[simp] theorem bound_some (cx : Cx) (e : Env) (d : Nat) (x : Opd) : evOp.bound cx e d (some x) = idxNat (evO cx e x) := rfl
def slcV (sz : Nat) (z : Bool) (s : Option (List D)) (lo : Option Nat) (hi : Nat → Option Nat) (h : Hp) : Option (V × Hp) := match s, lo with
    | some s, some l => match hi s.length with
      | some k => if l ≤ k ∧ k ≤ s.length ∧ (z || s.all (fun y => y.cells.length == sz)) = true then some (.d (.sl ((s.take k).drop l)), h) else none
      | none => none
    | _, _ => none
@[simp] theorem ev1_slc (sz : Nat) (x : Opd) (lo hi : Option Opd) (s : St) : ev1 pg (.slc sz x lo hi) s = slcV sz lo.isNone (lsize s.h (evO pg.toCx s.e x)) (evOp.bound pg.toCx s.e 0 lo) (fun d => evOp.bound pg.toCx s.e d hi) s.h := rfl
def slcK (sz : Nat) (z : Bool) (s : List D) (l : Nat) (k : Option Nat) (h : Hp) : Option (V × Hp) := match k with | some k => if l ≤ k ∧ k ≤ s.length ∧ (z || s.all (fun y => y.cells.length == sz)) = true then some (.d (.sl ((s.take k).drop l)), h) else none | none => none
@[simp] theorem slcV_some (sz : Nat) (z : Bool) (s : List D) (l : Nat) (hi : Nat → Option Nat) (h : Hp) : slcV sz z (some s) (some l) hi h = slcK sz z s l (hi s.length) h := rfl
@[simp] theorem slcK_some (sz : Nat) (z : Bool) (s : List D) (l k : Nat) (h : Hp) : slcK sz z s l (some k) h = if l ≤ k ∧ k ≤ s.length ∧ (z || s.all (fun y => y.cells.length == sz)) = true then some (.d (.sl ((s.take k).drop l)), h) else none := rfl
def szOf (o : Option D) : Option (List D) := match o with | some (.sl l) => some l | _ => none
@[simp] theorem szOf_sl (l : List D) : szOf (some (.sl l)) = some l := rfl
@[simp] theorem lsize_eq (H : Hp) (v : V) : lsize H v = szOf (toD1 H v) := rfl
def lenS (str : Bool) (v : V) (h : Hp) : Option (V × Hp) := match str, v with
    | true, .d (.str s) => some (.d (.int .i64 s.length), h)
    | false, v => (lenV v).map fun (n : Nat) => (V.d (.int .i64 (n : Int)), h)
    | _, _ => none
@[simp] theorem lenS_str (s : List UInt8) (h : Hp) : lenS true (.d (.str s)) h = some (.d (.int .i64 s.length), h) := rfl
@[simp] theorem lenS_sl (l : List D) (h : Hp) : lenS false (.d (.sl l)) h = some (.d (.int .i64 l.length), h) := rfl
@[simp] theorem lenS_nils (h : Hp) : lenS false .nils h = some (.d (.int .i64 0), h) := rfl
@[simp] theorem lenS_row (i n : Nat) (h : Hp) : lenS false (.row i n) h = some (.d (.int .i64 n), h) := rfl
@[simp] theorem lenS_arr (i o n : Nat) (h : Hp) : lenS false (.arr i o n) h = some (.d (.int .i64 n), h) := rfl
@[simp] theorem ev1_len (str : Bool) (x : Opd) (s : St) : ev1 pg (.len str x) s = lenS str (evO pg.toCx s.e x) s.h := by
  simp only [ev1, evOp]
  generalize evO pg.toCx s.e x = v
  cases str
  · rfl
  · cases v with
    | d y => cases y <;> rfl
    | _ => rfl
def convsV (v : V) (h : Hp) : Option (V × Hp) := match v with | .d (.str s) => some (.d (.str s), h) | _ => none
@[simp] theorem convsV_str (s : List UInt8) (h : Hp) : convsV (.d (.str s)) h = some (.d (.str s), h) := rfl
@[simp] theorem ev1_convs (x : Opd) (s : St) : ev1 pg (.convs x) s = convsV (evO pg.toCx s.e x) s.h := rfl
def appV (sz bytes : Nat) (v : V) (ys : Option (List D)) (h : Hp) : Option (V × Hp) := match ys with
    | none => none
    | some ys => if ys.all (fun y => y.cells.length == sz) ∧ 0 < sz then
      (match v with
        | .nile => if ys = [] then some (.nile, h) else if roomy ys.length bytes then some (.row h.length ys.length, h ++ [.row sz ys]) else none
        | .nils => if ys = [] then some (.nils, h) else if roomy ys.length bytes then some (.row h.length ys.length, h ++ [.row sz ys]) else none
        | .row id len => match h[id]? with
          | some (.row sz' l) => if sz' = sz ∧ l.length = len ∧ roomy (len + ys.length) bytes then some (.row id (len + ys.length), h.set id (.row sz (l ++ ys))) else none
          | _ => none
        | _ => none) else none
@[simp] theorem ev1_app (sz bytes : Nat) (x y : Opd) (s : St) : ev1 pg (.app sz bytes x y) s = appV sz bytes (evO pg.toCx s.e x) (lsize s.h (evO pg.toCx s.e y)) s.h := rfl
def appR (sz bytes id len : Nat) (ys : List D) (o : Option Ob) (h : Hp) : Option (V × Hp) := match o with
          | some (.row sz' l) => if sz' = sz ∧ l.length = len ∧ roomy (len + ys.length) bytes then some (.row id (len + ys.length), h.set id (.row sz (l ++ ys))) else none
          | _ => none
@[simp] theorem appV_row (sz bytes id len : Nat) (ys : List D) (h : Hp) : appV sz bytes (.row id len) (some ys) h = if ys.all (fun y => y.cells.length == sz) ∧ 0 < sz then appR sz bytes id len ys h[id]? h else none := rfl
@[simp] theorem appR_row (sz sz' bytes id len : Nat) (ys l : List D) (h : Hp) : appR sz bytes id len ys (some (.row sz' l)) h = if sz' = sz ∧ l.length = len ∧ roomy (len + ys.length) bytes then some (.row id (len + ys.length), h.set id (.row sz (l ++ ys))) else none := rfl
@[simp] theorem appV_nils (sz bytes : Nat) (ys : List D) (h : Hp) : appV sz bytes .nils (some ys) h = if ys.all (fun y => y.cells.length == sz) ∧ 0 < sz then (if ys = [] then some (.nils, h) else if roomy ys.length bytes then some (.row h.length ys.length, h ++ [.row sz ys]) else none) else none := rfl
def mmV (mx : Bool) (a b : V) (h : Hp) : Option (V × Hp) := match a, b with
    | .d (.int k a), .d (.int k' b) => if k = k' then some (.d (.int k (if mx then max a b else min a b)), h) else none
    | _, _ => none
@[simp] theorem mmV_int (mx : Bool) (k k' : IntKind) (a b : Int) (h : Hp) : mmV mx (.d (.int k a)) (.d (.int k' b)) h = if k = k' then some (.d (.int k (if mx then max a b else min a b)), h) else none := rfl
@[simp] theorem ev1_mm (mx : Bool) (x y : Opd) (s : St) : ev1 pg (.mm mx x y) s = mmV mx (evO pg.toCx s.e x) (evO pg.toCx s.e y) s.h := rfl
end
end Go.Vm
namespace Go.Vm
@[simp] theorem pickV_tt (a b : V) (h : Hp) : pickV (.d (.bool true)) a b h = some (a, h) := rfl
@[simp] theorem pickV_ff (a b : V) (h : Hp) : pickV (.d (.bool false)) a b h = some (b, h) := rfl
theorem allD_map : ∀ l : List D, allD (l.map V.d) = some l
  | [] => rfl
  | x :: l => by simp [allD, allD_map l]
@[simp] theorem mkAgg_map (l : List D) : mkAgg (l.map V.d) = .d (.agg l) := by simp only [mkAgg, allD_map]
@[simp] theorem partV_map (n off : Nat) (l : List D) : partV (some n) (l.map V.d) off = if off + n ≤ l.length then some (.d (.agg ((l.drop off).take n))) else none := by
  simp only [partV, List.length_map]
  rw [← List.map_drop, ← List.map_take, mkAgg_map]
@[simp] theorem partV_map1 (off : Nat) (l : List D) : partV none (l.map V.d) off = (l[off]?).map V.d := by simp [partV]
theorem partV_one (off : Nat) (l : List V) : partV none l off = l[off]? := rfl
theorem partV_some (n off : Nat) (l : List V) : partV (some n) l off = if off + n ≤ l.length then some (mkAgg ((l.drop off).take n)) else none := rfl
def obLoad (o : Option Ob) (n : Option Nat) (off : Nat) : Option V := match o with
  | some (.box c) => partV n c off
  | some (.frz c) => partV n (c.map V.d) off
  | _ => none
@[simp] theorem obLoad_box (c : List V) (n : Option Nat) (off : Nat) : obLoad (some (.box c)) n off = partV n c off := rfl
@[simp] theorem obLoad_frz (c : List D) (n : Option Nat) (off : Nat) : obLoad (some (.frz c)) n off = partV n (c.map V.d) off := rfl
@[simp] theorem loadV_ptr (H : Hp) (n : Option Nat) (id off : Nat) : loadV H n (.ptr id off) = obLoad H[id]? n off := by
  simp only [loadV, cellsAt, obLoad]
  cases H[id]? with
  | none => rfl
  | some o => cases o <;> rfl
@[simp] theorem loadV_ro (H : Hp) (n : Option Nat) (l : List D) (off : Nat) : loadV H n (.ro l off) = partV n (l.map V.d) off := rfl
def obStore (b : Nat) (H : Hp) (n id off : Nat) (x : V) (o : Option Ob) : Option Hp := match o with
  | some (.box c) => if x.cells.length = n ∧ off + n ≤ c.length ∧ x.cells.all V.one ∧ (undL id x.cells || decide (b ≤ id)) then some (H.set id (.box (putAt c off x.cells))) else none
  | _ => none
@[simp] theorem obStore_box (b : Nat) (H : Hp) (n id off : Nat) (x : V) (c : List V) : obStore b H n id off x (some (.box c)) = if x.cells.length = n ∧ off + n ≤ c.length ∧ x.cells.all V.one ∧ (undL id x.cells || decide (b ≤ id)) then some (H.set id (.box (putAt c off x.cells))) else none := rfl
@[simp] theorem storeV_ptr (b : Nat) (H : Hp) (n id off : Nat) (x : V) : storeV b H n (.ptr id off) x = obStore b H n id off x H[id]? := rfl
@[simp] theorem allD_nil : allD [] = some [] := rfl
@[simp] theorem allD_cons (x : D) (l : List V) : allD (.d x :: l) = (allD l).map (x :: ·) := rfl
def aggOf (o : Option (List D)) (l : List V) : V := match o with | some ds => .d (.agg ds) | none => .agg l
@[simp] theorem aggOf_some (ds : List D) (l : List V) : aggOf (some ds) l = .d (.agg ds) := rfl
@[simp] theorem aggOf_none (l : List V) : aggOf none l = .agg l := rfl
@[simp] theorem mkAgg_0 : mkAgg [] = .d (.agg []) := rfl
@[simp] theorem mkAgg_1 (x : V) (l : List V) : mkAgg (x :: l) = aggOf (allD (x :: l)) (x :: l) := rfl
@[simp] theorem allD_ptr (i o : Nat) (l : List V) : allD (.ptr i o :: l) = none := rfl
@[simp] theorem allD_row (i o : Nat) (l : List V) : allD (.row i o :: l) = none := rfl
@[simp] theorem allD_nils (l : List V) : allD (.nils :: l) = none := rfl
@[simp] theorem allD_nul (l : List V) : allD (.nul :: l) = none := rfl
@[simp] theorem allD_fn (f : Nat) (c l : List V) : allD (.fn f c :: l) = none := rfl
attribute [simp] buildV boxV
@[simp] theorem putAt_nil (c : List V) (n : Nat) : putAt c n [] = c := by cases c <;> cases n <;> rfl
@[simp] theorem putAt_zero (c v : V) (cs vs : List V) : putAt (c :: cs) 0 (v :: vs) = v :: putAt cs 0 vs := rfl
@[simp] theorem putAt_succ (c v : V) (cs vs : List V) (n : Nat) : putAt (c :: cs) (n + 1) (v :: vs) = c :: putAt cs n (v :: vs) := rfl
@[simp] theorem putAt_same : ∀ (c v : List V), v.length = c.length → putAt c 0 v = v
  | [], [], _ => rfl
  | [], _ :: _, h => by simp at h
  | _ :: _, [], h => by simp at h
  | c :: cs, v :: vs, h => by simp [putAt_same cs vs (by simpa using h)]
@[simp] theorem newOk_nil (n : Nat) : newOk n [] = true := rfl
@[simp] theorem newOk_box (n : Nat) (c : List V) (l : Hp) : newOk n (.box c :: l) = (undL n c && newOk n l) := rfl
@[simp] theorem newOk_frz (n : Nat) (c : List D) (l : Hp) : newOk n (.frz c :: l) = newOk n l := rfl
@[simp] theorem newOk_row (n z : Nat) (c : List D) (l : Hp) : newOk n (.row z c :: l) = newOk n l := rfl
open Classical in
noncomputable def pre (h h' : Hp) : Bool := decide (∃ l, h' = h ++ l)
@[simp] theorem pre_nil (h : Hp) : pre [] h = true := by simp [pre]
@[simp] theorem pre_self (h : Hp) : pre h h = true := by simp [pre]
@[simp] theorem pre_app (h l : Hp) : pre h (h ++ l) = true := by simp [pre]
@[simp] theorem pre_cons (o : Ob) (h h' : Hp) : pre (o :: h) (o :: h') = pre h h' := by simp [pre]
@[simp] theorem pre_apps (h l l' : Hp) : pre (h ++ l) (h ++ l') = pre l l' := by simp [pre]
theorem grew_eq (h h' : Hp) : grew h h' = (pre h h' && newOk h'.length (h'.drop h.length)) := rfl
@[simp] theorem idxNat_int (k : IntKind) (n : Int) : idxNat (.d (.int k n)) = if 0 ≤ n then some n.toNat else none := rfl
theorem oneOf_one (v : V) : oneOf [v] = v := rfl
theorem oneOf_two (u v : V) (l : List V) : oneOf (u :: v :: l) = .tup (u :: v :: l) := rfl
@[simp] theorem undL_map (n : Nat) : ∀ l : List D, undL n (l.map V.d) = true
  | [] => rfl
  | x :: l => by simp [undL_map n l]
@[simp] theorem resVs_nil (e : Env) (h : Hp) : resVs e h [] = some [] := rfl
def resC (v : Option V) (vs : Option (List V)) : Option (List V) := match v, vs with | some v, some vs => some (v :: vs) | _, _ => none
@[simp] theorem resC_some (v : V) (vs : List V) : resC (some v) (some vs) = some (v :: vs) := rfl
@[simp] theorem resVs_cons (e : Env) (h : Hp) (r : VRes) (l : List VRes) : resVs e h (r :: l) = resC (resV e h r) (resVs e h l) := rfl
@[simp] theorem resV_tmp (e : Env) (h : Hp) (t : Nat) : resV e h (.tmp t) = some (getE e t) := rfl
@[simp] theorem resV_cell (e : Env) (h : Hp) (t : Nat) (n : Option Nat) : resV e h (.cell t n) = loadV h n (getE e t) := rfl
def lv (keep : Bool) (h0 : Nat) (h : Hp) (r : Option (List V)) : Option (V × Hp) := match r with
  | none => none
  | some vs => if keep then some (oneOf vs, h) else if undL h0 (vs.map (toArg h)) then some (oneOf (vs.map (toArg h)), h.take h0) else none
@[simp] theorem lv_some (h0 : Nat) (h : Hp) (vs : List V) : lv false h0 h (some vs) = if undL h0 (vs.map (toArg h)) then some (oneOf (vs.map (toArg h)), h.take h0) else none := rfl
@[simp] theorem lv_keep (h0 : Nat) (h : Hp) (vs : List V) : lv true h0 h (some vs) = some (oneOf vs, h) := rfl
@[simp] theorem leave_eq (vf : VFn) (h0 : Nat) (s : St) : leave vf h0 s = lv vf.keep h0 s.h (resVs s.e s.h vf.res) := by
  unfold leave lv
  cases resVs s.e s.h vf.res <;> rfl
attribute [simp] grew_eq oneOf_one oneOf_two partV_one
attribute [simp low] partV_some
@[simp] theorem mkAgg_tdm (l : List D) (n k : Nat) : mkAgg (((l.map V.d).drop n).take k) = .d (.agg ((l.drop n).take k)) := by rw [← List.map_drop, ← List.map_take, mkAgg_map]
def enterFrom : Nat → List V → Env
  | _, [] => []
  | k, v :: l => (k, v) :: enterFrom (k + 1) l
theorem enterFrom_eq : ∀ (l : List V) (k : Nat), enterFrom k l = (List.range' k l.length).map fun i => (i, l.getD (i - k) .undef)
  | [], k => rfl
  | v :: l, k => by
    simp only [enterFrom, List.length_cons, List.range'_succ, List.map_cons, Nat.sub_self, List.getD_cons_zero, List.cons.injEq, true_and]
    rw [enterFrom_eq l (k + 1)]
    apply List.map_congr_left
    intro i hi
    have := List.mem_range'_1.1 hi
    rw [show i - k = (i - (k + 1)) + 1 by omega, List.getD_cons_succ]
@[simp] theorem enterE_eq (l : List V) : enterE l = enterFrom 0 l := by rw [enterFrom_eq, enterE, List.range_eq_range']; rfl
@[simp] theorem enterFrom_nil (k : Nat) : enterFrom k [] = [] := rfl
@[simp] theorem enterFrom_cons (k : Nat) (v : V) (l : List V) : enterFrom k (v :: l) = (k, v) :: enterFrom (k + 1) l := rfl

def andI (k : IntKind) (a b : Int) : Int := k.wrap (BitVec.ofInt k.bits a &&& BitVec.ofInt k.bits b).toNat
def orI (k : IntKind) (a b : Int) : Int := k.wrap (BitVec.ofInt k.bits a ||| BitVec.ofInt k.bits b).toNat
def xorI (k : IntKind) (a b : Int) : Int := k.wrap (BitVec.ofInt k.bits a ^^^ BitVec.ofInt k.bits b).toNat
def bicI (k : IntKind) (a b : Int) : Int := k.wrap (BitVec.ofInt k.bits a &&& ~~~BitVec.ofInt k.bits b).toNat
def shlI (k : IntKind) (a b : Int) : Int := k.wrap (a * 2 ^ (min b.toNat k.bits))
def shrI (k : IntKind) (a b : Int) : Int := a.fdiv (2 ^ (min b.toNat k.bits))
section
variable (k k' : IntKind) (a b : Int)
@[simp] theorem binV_add : binV .add (.d (.int k a)) (.d (.int k b)) = some (.d (.int k (k.wrap (a + b)))) := by simp [binV]
@[simp] theorem binV_sub : binV .sub (.d (.int k a)) (.d (.int k b)) = some (.d (.int k (k.wrap (a - b)))) := by simp [binV]
@[simp] theorem binV_mul : binV .mul (.d (.int k a)) (.d (.int k b)) = some (.d (.int k (k.wrap (a * b)))) := by simp [binV]
@[simp] theorem binV_quo : binV .quo (.d (.int k a)) (.d (.int k b)) = if b = 0 then none else some (.d (.int k (k.wrap (a.tdiv b)))) := by by_cases h : b = 0 <;> simp [binV, h]
@[simp] theorem binV_rem : binV .rem (.d (.int k a)) (.d (.int k b)) = if b = 0 then none else some (.d (.int k (a.tmod b))) := by by_cases h : b = 0 <;> simp [binV, h]
@[simp] theorem binV_and : binV .and (.d (.int k a)) (.d (.int k b)) = some (.d (.int k (andI k a b))) := by simp [binV, bitsI, andI]
@[simp] theorem binV_or : binV .or (.d (.int k a)) (.d (.int k b)) = some (.d (.int k (orI k a b))) := by simp [binV, bitsI, orI]
@[simp] theorem binV_xor : binV .xor (.d (.int k a)) (.d (.int k b)) = some (.d (.int k (xorI k a b))) := by simp [binV, bitsI, xorI]
@[simp] theorem binV_bic : binV .andNot (.d (.int k a)) (.d (.int k b)) = some (.d (.int k (bicI k a b))) := by simp [binV, bitsI, bicI]
@[simp] theorem binV_shl : binV .shl (.d (.int k a)) (.d (.int k' b)) = if 0 ≤ b then some (.d (.int k (shlI k a b))) else none := rfl
@[simp] theorem binV_shr : binV .shr (.d (.int k a)) (.d (.int k' b)) = if 0 ≤ b then some (.d (.int k (shrI k a b))) else none := rfl
@[simp] theorem binV_eql : binV .eql (.d (.int k a)) (.d (.int k b)) = some (.d (.bool (decide (a = b)))) := by simp [binV]; by_cases h : a = b <;> simp [h]
@[simp] theorem binV_neq : binV .neq (.d (.int k a)) (.d (.int k b)) = some (.d (.bool (!decide (a = b)))) := by simp [binV]; by_cases h : a = b <;> simp [h, bne]
@[simp] theorem binV_lss : binV .lss (.d (.int k a)) (.d (.int k b)) = some (.d (.bool (decide (a < b)))) := by simp [binV]
@[simp] theorem binV_leq : binV .leq (.d (.int k a)) (.d (.int k b)) = some (.d (.bool (decide (a ≤ b)))) := by simp [binV]
@[simp] theorem binV_gtr : binV .gtr (.d (.int k a)) (.d (.int k b)) = some (.d (.bool (decide (b < a)))) := by simp [binV]
@[simp] theorem binV_geq : binV .geq (.d (.int k a)) (.d (.int k b)) = some (.d (.bool (decide (b ≤ a)))) := by simp [binV]
@[simp] theorem binV_sadd (s t : List UInt8) : binV .add (.d (.str s)) (.d (.str t)) = if s.length + t.length ≤ 9223372036854775807 then some (.d (.str (s ++ t))) else none := rfl
@[simp] theorem binV_seql (s t : List UInt8) : binV .eql (.d (.str s)) (.d (.str t)) = some (.d (.bool (decide (s = t)))) := by simp [binV]; by_cases h : s = t <;> simp [h]
@[simp] theorem binV_sneq (s t : List UInt8) : binV .neq (.d (.str s)) (.d (.str t)) = some (.d (.bool (!decide (s = t)))) := by simp [binV]; by_cases h : s = t <;> simp [h]
@[simp] theorem unV_neg : unV .neg (.d (.int k a)) = some (.d (.int k (k.wrap (0 - a)))) := rfl
@[simp] theorem unV_not (b : Bool) : unV .not (.d (.bool b)) = some (.d (.bool !b)) := rfl
end
end Go.Vm
namespace Go.Vm
theorem i64w {n : Int} (h : -9223372036854775808 ≤ n ∧ n ≤ 9223372036854775807) : IntKind.i64.wrap n = n := by
  simp only [IntKind.wrap, IntKind.bits, IntKind.signed]; simp; omega
end Go.Vm
