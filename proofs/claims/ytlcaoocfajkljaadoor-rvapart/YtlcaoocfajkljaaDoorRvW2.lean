import Derived.Test.YtlcaoocfajkljaaDoorRvW
namespace Go.Vm.Rv
set_option maxRecDepth 10000
section
variable {fx : Nat → Option Obj} {rowsD : List D} {rw_ : Int → Rw} (R : RowsOk rowsD rw_) (H : Hp)
def insD (op rd rs1 rs2 n : Int) : D := .agg [.int .i64 op, .int .i64 rd, .int .i64 rs1, .int .i64 rs2, .int .i64 n]
def chkL (rw_ : Int → Rw) (op rd rs1 rs2 n : Int) : Bool := (ofL rw_ op).2 && regL (rdL (ofL rw_ op).1.f) rd && regL (rs1L (ofL rw_ op).1.f) rs1 && regL (rs2L (ofL rw_ op).1.f) rs2 && numL (ofL rw_ op).1 op n
include R in
theorem chk_ev (op rd rs1 rs2 n : Int) : evF (pgR fx rowsD) 10 [.d (insD op rd rs1 rs2 n)] H = some (.d (.int .i64 (if chkL rw_ op rd rs1 rs2 n then 0 else 11)), H) := by
  refine evF_wp tbl10 rfl rfl ?_ H
  repeat' (first
    | refine And.intro (fun h => ?_) (fun h => ?_)
    | refine Exists.intro _ (Exists.intro _ (And.intro (of_ev R _ _) ?_))
    | refine Exists.intro _ (Exists.intro _ (And.intro (has_ev _ _) ?_))
    | refine Exists.intro _ (Exists.intro _ (And.intro (reg_ev _ _ _) ?_))
    | refine Exists.intro _ (Exists.intro _ (And.intro (num_ev _ _ _ _) ?_)))
  all_goals try (show _ = _)
  all_goals try grind [oneOf, chkL]
def u32 (n : Int) : Int := IntKind.u32.wrap n
def orU (a b : Int) : Int := orI .u32 a b
def shU (a b : Int) : Int := shlI .u32 a b
def wordL (r : Rw) (rd rs1 rs2 n : Int) : Int :=
  let w := orU (orU (orU (orU r.c (shU r.f3 12)) (shU (u32 rd) 7)) (shU (u32 rs1) 15)) (shU (u32 rs2) 20)
  let n := u32 n
  if r.f = 82 then orU w (shU r.f7 25)
  else if r.f = 73 then orU w (bitsL n 0 12 20)
  else if r.f = 72 then orU w (orU (shU r.f7 25) (bitsL n 0 6 20))
  else if r.f = 83 then orU w (orU (bitsL n 0 5 7) (bitsL n 5 7 25))
  else if r.f = 66 then orU w (orU (orU (orU (bitsL n 11 1 7) (bitsL n 1 4 8)) (bitsL n 5 6 25)) (bitsL n 12 1 31))
  else if r.f = 85 then orU w (bitsL n 0 20 12)
  else if r.f = 74 then orU w (orU (orU (orU (bitsL n 12 8 12) (bitsL n 11 1 20)) (bitsL n 1 10 21)) (bitsL n 20 1 31))
  else w
def encL (rw_ : Int → Rw) (op rd rs1 rs2 n : Int) : Int × Int := if chkL rw_ op rd rs1 rs2 n then (wordL (rw_ op) rd rs1 rs2 n, 0) else (0, 11)
theorem ofL_of {op rd rs1 rs2 n : Int} (h : chkL rw_ op rd rs1 rs2 n = true) : (ofL rw_ op).1 = rw_ op := by
  unfold chkL at h
  simp only [Bool.and_eq_true] at h
  have := h.1.1.1.1
  unfold ofL at this ⊢
  split at this
  · cases this
  · rename_i h; rw [if_neg h]
include R in
theorem enc_ev (op rd rs1 rs2 n : Int) : evF (pgR fx rowsD) 8 [.d (insD op rd rs1 rs2 n)] H = some (.tup [.d (.int .u32 (encL rw_ op rd rs1 rs2 n).1), .d (.int .i64 (encL rw_ op rd rs1 rs2 n).2)], H) := by
  refine evF_wp tbl8 rfl rfl ?_ H
  repeat' (first
    | refine And.intro (fun h => ?_) (fun h => ?_)
    | refine And.intro (grew_self _) ?_
    | refine Exists.intro _ (Exists.intro _ (And.intro (chk_ev R _ op rd rs1 rs2 n) ?_))
    | refine Exists.intro _ (Exists.intro _ (And.intro (of_ev R _ _) ?_))
    | refine Exists.intro _ (Exists.intro _ (And.intro (bits_ev _ _ _ _ _ (by decide) (by decide) (by decide)) ?_)))
  all_goals try (show _ = _)
  · grind [oneOf, encL]
  all_goals
    have hc : chkL rw_ op rd rs1 rs2 n = true := by grind
    have ho := ofL_of hc
    simp only [ho, encL, hc, if_true, wordL, u32, orU, shU, oneOf]
    try grind
theorem u64_nn (n : Int) : 0 ≤ IntKind.u64.wrap n := by simp only [IntKind.wrap, IntKind.bits, IntKind.signed]; simp; omega
def sgnL (n c : Int) : Int := IntKind.i64.wrap (shrI .i32 (IntKind.i32.wrap (shlI .u32 n (IntKind.u64.wrap (32 - c)))) (IntKind.u64.wrap (32 - c)))
omit R in
theorem sgn_ev (n c : Int) : evF (pgR fx rowsD) 46 [.d (.int .u32 n), .d (.int .u64 c)] H = some (.d (.int .i64 (sgnL n c)), H) := by
  refine evF_wp tbl46 rfl rfl ?_ H
  refine And.intro (u64_nn _) ?_
  refine And.intro (u64_nn _) ?_
  exact rfl
def orV (a b : Int) : Int := orI .u32 a b
def immL (f w : Int) : Int :=
  if f = 73 then sgnL (shrI .u32 w 20) 12
  else if f = 72 then IntKind.i64.wrap (andI .u32 (shrI .u32 w 20) 63)
  else if f = 83 then sgnL (orU (bitsL w 7 5 0) (bitsL w 25 7 5)) 12
  else if f = 66 then sgnL (orU (orU (orU (bitsL w 7 1 11) (bitsL w 8 4 1)) (bitsL w 25 6 5)) (bitsL w 31 1 12)) 13
  else if f = 85 then sgnL (shrI .u32 w 12) 20
  else if f = 74 then sgnL (orU (orU (orU (bitsL w 12 8 12) (bitsL w 20 1 11)) (bitsL w 21 10 1)) (bitsL w 31 1 20)) 21
  else 0
omit R in
theorem imm_ev (f w : Int) : evF (pgR fx rowsD) 32 [.d (.int .u8 f), .d (.int .u32 w)] H = some (.d (.int .i64 (immL f w)), H) := by
  refine evF_wp tbl32 rfl rfl ?_ H
  repeat' (first
    | refine And.intro (fun h => ?_) (fun h => ?_)
    | refine Exists.intro _ (Exists.intro _ (And.intro (sgn_ev _ _ _) ?_))
    | refine Exists.intro _ (Exists.intro _ (And.intro (bits_ev _ _ _ _ _ (by decide) (by decide) (by decide)) ?_)))
  all_goals show _ = _
  all_goals simp only [oneOf, immL, orU]
  all_goals grind
def fitsL (r : Rw) (w : Int) : Bool :=
  if r.f = 78 then decide (w = r.c)
  else if r.f = 72 ∧ (if r.c = 27 then shrI .u32 w 25 else shlI .u32 (shrI .u32 w 26) 1) ≠ r.f7 then false
  else if r.f = 82 ∧ shrI .u32 w 25 ≠ r.f7 then false
  else decide (andI .u32 w 127 = r.c) && (decide (r.f = 85) || decide (r.f = 74) || decide (andI .u32 (shrI .u32 w 12) 7 = r.f3))
omit R in
theorem fits_ev (r : Rw) (w : Int) : evF (pgR fx rowsD) 31 [.d r.D, .d (.int .u32 w)] H = some (.d (.bool (fitsL r w)), H) := by
  refine evF_wp tbl31 rfl rfl ?_ H
  repeat' refine And.intro (fun h => ?_) (fun h => ?_)
  all_goals show _ = _
  all_goals simp only [oneOf, fitsL]
  all_goals grind
end
end Go.Vm.Rv
