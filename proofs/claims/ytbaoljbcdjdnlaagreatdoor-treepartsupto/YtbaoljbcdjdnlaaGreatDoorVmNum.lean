import Derived.Test.YtbaoljbcdjdnlaaGreatDoorVmRun
set_option linter.unusedSimpArgs false
set_option linter.unusedVariables false
namespace Go.Vm
@[simp] theorem pickV_tt (a b : V) (h : Hp) : pickV (.d (.bool true)) a b h = some (a, h) := rfl
@[simp] theorem pickV_ff (a b : V) (h : Hp) : pickV (.d (.bool false)) a b h = some (b, h) := rfl
theorem allD_map : ∀ l : List D, allD (l.map V.d) = some l
  | [] => rfl
  | x :: l => by simp [allD, allD_map l]
@[simp] theorem mkAgg_map (l : List D) : mkAgg (l.map V.d) = .d (.agg l) := by simp only [mkAgg, allD_map]
@[simp] theorem partV_map (n off : Nat) (l : List D) : partV (some n) (l.map V.d) off = if off + n ≤ l.length then some (.d (.agg ((l.drop off).take n))) else none := by
  simp only [partV, List.length_map]
  rw [← List.map_drop, ← List.map_take, mkAgg_map]
@[simp] theorem partV_map1 (off : Nat) (l : List D) : partV none (l.map V.d) off = (l[off]?).map V.d := by simp [partV]
theorem partV_one (off : Nat) (l : List V) : partV none l off = l[off]? := rfl
theorem partV_some (n off : Nat) (l : List V) : partV (some n) l off = if off + n ≤ l.length then some (mkAgg ((l.drop off).take n)) else none := rfl
def obLoad (o : Option Ob) (n : Option Nat) (off : Nat) : Option V := match o with
  | some (.box c) => partV n c off
  | some (.frz c) => partV n (c.map V.d) off
  | _ => none
@[simp] theorem obLoad_box (c : List V) (n : Option Nat) (off : Nat) : obLoad (some (.box c)) n off = partV n c off := rfl
@[simp] theorem obLoad_frz (c : List D) (n : Option Nat) (off : Nat) : obLoad (some (.frz c)) n off = partV n (c.map V.d) off := rfl
@[simp] theorem loadV_ptr (H : Hp) (n : Option Nat) (id off : Nat) : loadV H n (.ptr id off) = obLoad H[id]? n off := by
  simp only [loadV, cellsAt, obLoad]
  cases H[id]? with
  | none => rfl
  | some o => cases o <;> rfl
@[simp] theorem loadV_ro (H : Hp) (n : Option Nat) (l : List D) (off : Nat) : loadV H n (.ro l off) = partV n (l.map V.d) off := rfl
def obStore (b : Nat) (H : Hp) (n id off : Nat) (x : V) (o : Option Ob) : Option Hp := match o with
  | some (.box c) => if x.cells.length = n ∧ off + n ≤ c.length ∧ x.cells.all V.one ∧ (undL id x.cells || decide (b ≤ id)) then some (H.set id (.box (putAt c off x.cells))) else none
  | _ => none
@[simp] theorem obStore_box (b : Nat) (H : Hp) (n id off : Nat) (x : V) (c : List V) : obStore b H n id off x (some (.box c)) = if x.cells.length = n ∧ off + n ≤ c.length ∧ x.cells.all V.one ∧ (undL id x.cells || decide (b ≤ id)) then some (H.set id (.box (putAt c off x.cells))) else none := rfl
@[simp] theorem storeV_ptr (b : Nat) (H : Hp) (n id off : Nat) (x : V) : storeV b H n (.ptr id off) x = obStore b H n id off x H[id]? := rfl
@[simp] theorem allD_nil : allD [] = some [] := rfl
@[simp] theorem allD_cons (x : D) (l : List V) : allD (.d x :: l) = (allD l).map (x :: ·) := rfl
def aggOf (o : Option (List D)) (l : List V) : V := match o with | some ds => .d (.agg ds) | none => .agg l
@[simp] theorem aggOf_some (ds : List D) (l : List V) : aggOf (some ds) l = .d (.agg ds) := rfl
@[simp] theorem aggOf_none (l : List V) : aggOf none l = .agg l := rfl
@[simp] theorem mkAgg_0 : mkAgg [] = .d (.agg []) := rfl
@[simp] theorem mkAgg_1 (x : V) (l : List V) : mkAgg (x :: l) = aggOf (allD (x :: l)) (x :: l) := rfl
@[simp] theorem allD_ptr (i o : Nat) (l : List V) : allD (.ptr i o :: l) = none := rfl
@[simp] theorem allD_row (i o : Nat) (l : List V) : allD (.row i o :: l) = none := rfl
@[simp] theorem allD_nils (l : List V) : allD (.nils :: l) = none := rfl
@[simp] theorem allD_nul (l : List V) : allD (.nul :: l) = none := rfl
@[simp] theorem allD_fn (f : Nat) (c l : List V) : allD (.fn f c :: l) = none := rfl
attribute [simp] buildV boxV
@[simp] theorem putAt_nil (c : List V) (n : Nat) : putAt c n [] = c := by cases c <;> cases n <;> rfl
@[simp] theorem putAt_zero (c v : V) (cs vs : List V) : putAt (c :: cs) 0 (v :: vs) = v :: putAt cs 0 vs := rfl
@[simp] theorem putAt_succ (c v : V) (cs vs : List V) (n : Nat) : putAt (c :: cs) (n + 1) (v :: vs) = c :: putAt cs n (v :: vs) := rfl
@[simp] theorem putAt_same : ∀ (c v : List V), v.length = c.length → putAt c 0 v = v
  | [], [], _ => rfl
  | [], _ :: _, h => by simp at h
  | _ :: _, [], h => by simp at h
  | c :: cs, v :: vs, h => by simp [putAt_same cs vs (by simpa using h)]
@[simp] theorem newOk_nil (n : Nat) : newOk n [] = true := rfl
@[simp] theorem newOk_box (n : Nat) (c : List V) (l : Hp) : newOk n (.box c :: l) = (undL n c && newOk n l) := rfl
@[simp] theorem newOk_frz (n : Nat) (c : List D) (l : Hp) : newOk n (.frz c :: l) = newOk n l := rfl
@[simp] theorem newOk_row (n z : Nat) (c : List D) (l : Hp) : newOk n (.row z c :: l) = newOk n l := rfl
open Classical in
noncomputable def pre (h h' : Hp) : Bool := decide (∃ l, h' = h ++ l)
@[simp] theorem pre_nil (h : Hp) : pre [] h = true := by simp [pre]
@[simp] theorem pre_self (h : Hp) : pre h h = true := by simp [pre]
@[simp] theorem pre_app (h l : Hp) : pre h (h ++ l) = true := by simp [pre]
@[simp] theorem pre_cons (o : Ob) (h h' : Hp) : pre (o :: h) (o :: h') = pre h h' := by simp [pre]
@[simp] theorem pre_apps (h l l' : Hp) : pre (h ++ l) (h ++ l') = pre l l' := by simp [pre]
theorem grew_eq (h h' : Hp) : grew h h' = (pre h h' && newOk h'.length (h'.drop h.length)) := rfl
@[simp] theorem idxNat_int (k : IntKind) (n : Int) : idxNat (.d (.int k n)) = if 0 ≤ n then some n.toNat else none := rfl
theorem oneOf_one (v : V) : oneOf [v] = v := rfl
theorem oneOf_two (u v : V) (l : List V) : oneOf (u :: v :: l) = .tup (u :: v :: l) := rfl
@[simp] theorem undL_map (n : Nat) : ∀ l : List D, undL n (l.map V.d) = true
  | [] => rfl
  | x :: l => by simp [undL_map n l]
@[simp] theorem resVs_nil (e : Env) (h : Hp) : resVs e h [] = some [] := rfl
def resC (v : Option V) (vs : Option (List V)) : Option (List V) := match v, vs with | some v, some vs => some (v :: vs) | _, _ => none
@[simp] theorem resC_some (v : V) (vs : List V) : resC (some v) (some vs) = some (v :: vs) := rfl
@[simp] theorem resVs_cons (e : Env) (h : Hp) (r : VRes) (l : List VRes) : resVs e h (r :: l) = resC (resV e h r) (resVs e h l) := rfl
@[simp] theorem resV_tmp (e : Env) (h : Hp) (t : Nat) : resV e h (.tmp t) = some (getE e t) := rfl
@[simp] theorem resV_cell (e : Env) (h : Hp) (t : Nat) (n : Option Nat) : resV e h (.cell t n) = loadV h n (getE e t) := rfl
def lv (keep : Bool) (h0 : Nat) (h : Hp) (r : Option (List V)) : Option (V × Hp) := match r with
  | none => none
  | some vs => if keep then some (oneOf vs, h) else if undL h0 (vs.map (toArg h)) then some (oneOf (vs.map (toArg h)), h.take h0) else none
@[simp] theorem lv_some (h0 : Nat) (h : Hp) (vs : List V) : lv false h0 h (some vs) = if undL h0 (vs.map (toArg h)) then some (oneOf (vs.map (toArg h)), h.take h0) else none := rfl
@[simp] theorem lv_keep (h0 : Nat) (h : Hp) (vs : List V) : lv true h0 h (some vs) = some (oneOf vs, h) := rfl
@[simp] theorem leave_eq (vf : VFn) (h0 : Nat) (s : St) : leave vf h0 s = lv vf.keep h0 s.h (resVs s.e s.h vf.res) := by
  unfold leave lv
  cases resVs s.e s.h vf.res <;> rfl
attribute [simp] grew_eq oneOf_one oneOf_two partV_one
attribute [simp low] partV_some
@[simp] theorem mkAgg_tdm (l : List D) (n k : Nat) : mkAgg (((l.map V.d).drop n).take k) = .d (.agg ((l.drop n).take k)) := by rw [← List.map_drop, ← List.map_take, mkAgg_map]
def enterFrom : Nat → List V → Env
  | _, [] => []
  | k, v :: l => (k, v) :: enterFrom (k + 1) l
theorem enterFrom_eq : ∀ (l : List V) (k : Nat), enterFrom k l = (List.range' k l.length).map fun i => (i, l.getD (i - k) .undef)
  | [], k => rfl
  | v :: l, k => by
    simp only [enterFrom, List.length_cons, List.range'_succ, List.map_cons, Nat.sub_self, List.getD_cons_zero, List.cons.injEq, true_and]
    rw [enterFrom_eq l (k + 1)]
    apply List.map_congr_left
    intro i hi
    have := List.mem_range'_1.1 hi
    rw [show i - k = (i - (k + 1)) + 1 by omega, List.getD_cons_succ]
@[simp] theorem enterE_eq (l : List V) : enterE l = enterFrom 0 l := by rw [enterFrom_eq, enterE, List.range_eq_range']; rfl
@[simp] theorem enterFrom_nil (k : Nat) : enterFrom k [] = [] := rfl
@[simp] theorem enterFrom_cons (k : Nat) (v : V) (l : List V) : enterFrom k (v :: l) = (k, v) :: enterFrom (k + 1) l := rfl

def andI (k : IntKind) (a b : Int) : Int := k.wrap (BitVec.ofInt k.bits a &&& BitVec.ofInt k.bits b).toNat
def orI (k : IntKind) (a b : Int) : Int := k.wrap (BitVec.ofInt k.bits a ||| BitVec.ofInt k.bits b).toNat
def xorI (k : IntKind) (a b : Int) : Int := k.wrap (BitVec.ofInt k.bits a ^^^ BitVec.ofInt k.bits b).toNat
def bicI (k : IntKind) (a b : Int) : Int := k.wrap (BitVec.ofInt k.bits a &&& ~~~BitVec.ofInt k.bits b).toNat
def shlI (k : IntKind) (a b : Int) : Int := k.wrap (a * 2 ^ (min b.toNat k.bits))
def shrI (k : IntKind) (a b : Int) : Int := a.fdiv (2 ^ (min b.toNat k.bits))
section
variable (k k' : IntKind) (a b : Int)
@[simp] theorem binV_add : binV .add (.d (.int k a)) (.d (.int k b)) = some (.d (.int k (k.wrap (a + b)))) := by simp [binV]
@[simp] theorem binV_sub : binV .sub (.d (.int k a)) (.d (.int k b)) = some (.d (.int k (k.wrap (a - b)))) := by simp [binV]
@[simp] theorem binV_mul : binV .mul (.d (.int k a)) (.d (.int k b)) = some (.d (.int k (k.wrap (a * b)))) := by simp [binV]
@[simp] theorem binV_quo : binV .quo (.d (.int k a)) (.d (.int k b)) = if b = 0 then none else some (.d (.int k (k.wrap (a.tdiv b)))) := by by_cases h : b = 0 <;> simp [binV, h]
@[simp] theorem binV_rem : binV .rem (.d (.int k a)) (.d (.int k b)) = if b = 0 then none else some (.d (.int k (a.tmod b))) := by by_cases h : b = 0 <;> simp [binV, h]
@[simp] theorem binV_and : binV .and (.d (.int k a)) (.d (.int k b)) = some (.d (.int k (andI k a b))) := by simp [binV, bitsI, andI]
@[simp] theorem binV_or : binV .or (.d (.int k a)) (.d (.int k b)) = some (.d (.int k (orI k a b))) := by simp [binV, bitsI, orI]
@[simp] theorem binV_xor : binV .xor (.d (.int k a)) (.d (.int k b)) = some (.d (.int k (xorI k a b))) := by simp [binV, bitsI, xorI]
@[simp] theorem binV_bic : binV .andNot (.d (.int k a)) (.d (.int k b)) = some (.d (.int k (bicI k a b))) := by simp [binV, bitsI, bicI]
@[simp] theorem binV_shl : binV .shl (.d (.int k a)) (.d (.int k' b)) = if 0 ≤ b then some (.d (.int k (shlI k a b))) else none := rfl
@[simp] theorem binV_shr : binV .shr (.d (.int k a)) (.d (.int k' b)) = if 0 ≤ b then some (.d (.int k (shrI k a b))) else none := rfl
@[simp] theorem binV_eql : binV .eql (.d (.int k a)) (.d (.int k b)) = some (.d (.bool (decide (a = b)))) := by simp [binV]; by_cases h : a = b <;> simp [h]
@[simp] theorem binV_neq : binV .neq (.d (.int k a)) (.d (.int k b)) = some (.d (.bool (!decide (a = b)))) := by simp [binV]; by_cases h : a = b <;> simp [h, bne]
@[simp] theorem binV_lss : binV .lss (.d (.int k a)) (.d (.int k b)) = some (.d (.bool (decide (a < b)))) := by simp [binV]
@[simp] theorem binV_leq : binV .leq (.d (.int k a)) (.d (.int k b)) = some (.d (.bool (decide (a ≤ b)))) := by simp [binV]
@[simp] theorem binV_gtr : binV .gtr (.d (.int k a)) (.d (.int k b)) = some (.d (.bool (decide (b < a)))) := by simp [binV]
@[simp] theorem binV_geq : binV .geq (.d (.int k a)) (.d (.int k b)) = some (.d (.bool (decide (b ≤ a)))) := by simp [binV]
@[simp] theorem binV_sadd (s t : List UInt8) : binV .add (.d (.str s)) (.d (.str t)) = if s.length + t.length ≤ 9223372036854775807 then some (.d (.str (s ++ t))) else none := rfl
@[simp] theorem binV_seql (s t : List UInt8) : binV .eql (.d (.str s)) (.d (.str t)) = some (.d (.bool (decide (s = t)))) := by simp [binV]; by_cases h : s = t <;> simp [h]
@[simp] theorem binV_sneq (s t : List UInt8) : binV .neq (.d (.str s)) (.d (.str t)) = some (.d (.bool (!decide (s = t)))) := by simp [binV]; by_cases h : s = t <;> simp [h]
@[simp] theorem unV_neg : unV .neg (.d (.int k a)) = some (.d (.int k (k.wrap (0 - a)))) := rfl
@[simp] theorem unV_not (b : Bool) : unV .not (.d (.bool b)) = some (.d (.bool !b)) := rfl
end
end Go.Vm
namespace Go.Vm
theorem i64w {n : Int} (h : -9223372036854775808 ≤ n ∧ n ≤ 9223372036854775807) : IntKind.i64.wrap n = n := by
  simp only [IntKind.wrap, IntKind.bits, IntKind.signed]; simp; omega
end Go.Vm
