import Derived.Test.YtlcaoocfajkljaaDoorRvCode
import Derived.Test.YtlcaoocfajkljaaDoorVmWp2
namespace Go.Vm.Rv
set_option maxRecDepth 10000
/-- An operation's row. -/
structure Rw where
  f : Int
  c : Int
  f3 : Int
  f7 : Int
def Rw.D (r : Rw) : D := .agg [.int .u8 r.f, .int .u32 r.c, .int .u32 r.f3, .int .u32 r.f7]
def pgR (fx : Nat → Option Obj) (rowsD : List D) : Pg := ⟨⟨fun i => if i = 0 then rowsD else [], fx⟩, tbl⟩
/-- What is known of the rows. -/
structure RowsOk (rowsD : List D) (rw_ : Int → Rw) : Prop where
  len : rowsD.length = 264
  get : ∀ op, 1 ≤ op → op ≤ 65 → (rowsD.drop (op.toNat * 4)).take 4 = [.int .u8 (rw_ op).f, .int .u32 (rw_ op).c, .int .u32 (rw_ op).f3, .int .u32 (rw_ op).f7]
section
variable {fx : Nat → Option Obj} {rowsD : List D} {rw_ : Int → Rw} (R : RowsOk rowsD rw_) (H : Hp)
include R in
theorem RowsOk.part (op : Int) (h1 : 1 ≤ op) (h2 : op ≤ 65) : partV (some 4) (rowsD.map V.d) (0 + op.toNat * 4) = some (.d (rw_ op).D) := by
  have : op.toNat ≤ 65 := by omega
  rw [partV_map, R.len, if_pos (by omega), Nat.zero_add, R.get op h1 h2]; rfl
def zRw : Rw := ⟨0, 0, 0, 0⟩
def ofL (rw_ : Int → Rw) (op : Int) : Rw × Bool := if op < 1 ∨ 65 < op then (zRw, false) else (rw_ op, true)
include R in
theorem of_ev (op : Int) : evF (pgR fx rowsD) 25 [.d (.int .i64 op)] H = some (.tup [.d (ofL rw_ op).1.D, .d (.bool (ofL rw_ op).2)], H) := by
  refine evF_wp tbl25 rfl rfl ?_ H
  refine And.intro (fun h => ?_) (fun h => ?_)
  · refine And.intro (fun h2 => ?_) (fun h2 => ?_)
    · show _ = _
      simp only [decide_eq_true_eq] at h h2
      simp [oneOf, ofL, h2, zRw, Rw.D]
    · simp at h h2
      refine And.intro (by omega) ?_
      refine partK_of (R.part op (by omega) (by omega)) ?_
      show _ = _
      simp [oneOf, ofL, show ¬(op < 1 ∨ 65 < op) by omega, Rw.D]
  · refine And.intro (fun h2 => ?_) (fun h2 => ?_)
    · show _ = _
      simp at h
      simp [oneOf, ofL, h, zRw, Rw.D]
    · cases h2
def bitsL (n f c a : Int) : Int := shlI .u32 (andI .u32 (shrI .u32 n f) (IntKind.u32.wrap (shlI .u32 1 c - 1))) a
omit R in
theorem bits_ev (n f c a : Int) (hf : 0 ≤ f) (hc : 0 ≤ c) (ha : 0 ≤ a) : evF (pgR fx rowsD) 26 [.d (.int .u32 n), .d (.int .u64 f), .d (.int .u64 c), .d (.int .u64 a)] H = some (.d (.int .u32 (bitsL n f c a)), H) := by
  refine evF_wp tbl26 rfl rfl ?_ H
  refine And.intro hf ?_
  refine And.intro hc ?_
  refine And.intro ha ?_
  exact rfl
def rdL (c : Int) : Bool := c = 82 ∨ c = 73 ∨ c = 72 ∨ c = 85 ∨ c = 74
def rs1L (c : Int) : Bool := c = 82 ∨ c = 73 ∨ c = 72 ∨ c = 66 ∨ c = 83
def rs2L (c : Int) : Bool := c = 82 ∨ c = 66 ∨ c = 83
omit R in
theorem has_ev (c : Int) : evF (pgR fx rowsD) 28 [.d (.int .u8 c)] H = some (.tup [.d (.bool (rdL c)), .d (.bool (rs1L c)), .d (.bool (rs2L c))], H) := by
  refine evF_wp tbl28 rfl rfl ?_ H
  repeat' refine And.intro (fun h => ?_) (fun h => ?_)
  all_goals show _ = _
  all_goals simp [oneOf, rdL, rs1L, rs2L] at *
  all_goals simp_all
def regL (named : Bool) (r : Int) : Bool := r = 0 ∨ (named = true ∧ 0 < r ∧ r < 32)
omit R in
theorem reg_ev (b : Bool) (r : Int) : evF (pgR fx rowsD) 29 [.d (.bool b), .d (.int .i64 r)] H = some (.d (.bool (regL b r)), H) := by
  refine evF_wp tbl29 rfl rfl ?_ H
  repeat' refine And.intro (fun h => ?_) (fun h => ?_)
  all_goals show _ = _
  all_goals simp only [oneOf, regL]
  all_goals grind
omit R in
theorem in_ev (lo hi n : Int) (i : Nat) (hi' : H[i]? = some (.box [.d (.int .i64 n)])) : evF (pgR fx rowsD) 45 [.d (.int .i64 lo), .d (.int .i64 hi), .ptr i 0] H = some (.d (.bool (decide (lo ≤ n) && decide (n ≤ hi))), H) := by
  refine evF_wpOn tbl45 rfl rfl (by simp [undL, V.und]) ?_
  refine nthK_of hi' ?_
  refine And.intro (fun h => ?_) (fun h => ?_)
  · refine nthK_of hi' ?_
    refine And.intro ?_ (by simp)
    grind [oneOf]
  · refine And.intro ?_ (by simp)
    grind [oneOf]
def numL (r : Rw) (op n : Int) : Bool :=
  if r.f = 73 ∨ r.f = 83 then decide (-2048 ≤ n) && decide (n ≤ 2047)
  else if r.f = 66 then decide (-4096 ≤ n) && decide (n ≤ 4094) && decide (n.tmod 2 = 0)
  else if r.f = 74 then decide (-1048576 ≤ n) && decide (n ≤ 1048574) && decide (n.tmod 2 = 0)
  else if r.f = 85 then decide (-524288 ≤ n) && decide (n ≤ 524287)
  else if r.f = 72 then decide (0 ≤ n) && decide (n ≤ 63) && (decide (op < 32) || decide (n < 32))
  else decide (n = 0)
omit R in
theorem num_ev (r : Rw) (op n : Int) : evF (pgR fx rowsD) 30 [.d r.D, .d (.int .i64 op), .d (.int .i64 n)] H = some (.d (.bool (numL r op n)), H) := by
  refine evF_wp tbl30 rfl rfl ?_ H
  repeat' (first
    | refine And.intro (fun h => ?_) (fun h => ?_)
    | refine Exists.intro _ (Exists.intro _ (And.intro (in_ev _ _ _ _ _ rfl) ?_)))
  all_goals show _ = _
  all_goals grind [oneOf, numL]
end
end Go.Vm.Rv
