import Derived.Test.YtlcaoocfajkljaaDoorRvW3
namespace Go.Vm.Rv
set_option maxRecDepth 10000
section
variable {fx : Nat → Option Obj} {rowsD : List D} (H : Hp)
def hasD (c : Int) : Bool := c = 85 ∨ c = 74 ∨ c = 73 ∨ c = 72 ∨ c = 104 ∨ c = 82
def hasA (c : Int) : Bool := c = 73 ∨ c = 72 ∨ c = 104 ∨ c = 82 ∨ c = 83 ∨ c = 66
def hasB (c : Int) : Bool := c = 82 ∨ c = 83 ∨ c = 66
theorem Has_ev (c : Int) : evF (pgR fx rowsD) 35 [.d (.int .u8 c)] H = some (.tup [.d (.bool (hasD c)), .d (.bool (hasA c)), .d (.bool (hasB c))], H) := by
  refine evF_wp tbl35 rfl rfl ?_ H
  repeat' refine And.intro (fun h => ?_) (fun h => ?_)
  all_goals show _ = _
  all_goals simp [oneOf, hasD, hasA, hasB] at *
  all_goals simp_all
def rregL (r : Int) (named : Bool) : Bool := if named = true then decide (0 ≤ r ∧ r ≤ 31) else decide (r = 0)
theorem rreg_ev (r : Int) (b : Bool) : evF (pgR fx rowsD) 36 [.d (.int .i64 r), .d (.bool b)] H = some (.d (.bool (rregL r b)), H) := by
  refine evF_wp tbl36 rfl rfl ?_ H
  repeat' refine And.intro (fun h => ?_) (fun h => ?_)
  all_goals show _ = _
  all_goals grind [oneOf, rregL]
def rimmL (c n : Int) : Bool :=
  if c = 73 ∨ c = 83 then decide (-2048 ≤ n ∧ n ≤ 2047)
  else if c = 66 then decide (-4096 ≤ n ∧ n ≤ 4094 ∧ n.tmod 2 = 0)
  else if c = 74 then decide (-1048576 ≤ n ∧ n ≤ 1048574 ∧ n.tmod 2 = 0)
  else if c = 85 then decide (-524288 ≤ n ∧ n ≤ 524287)
  else if c = 72 then decide (0 ≤ n ∧ n ≤ 63)
  else if c = 104 then decide (0 ≤ n ∧ n ≤ 31)
  else decide (n = 0)
theorem rimm_ev (c n : Int) : evF (pgR fx rowsD) 37 [.d (.int .u8 c), .d (.int .i64 n)] H = some (.d (.bool (rimmL c n)), H) := by
  refine evF_wp tbl37 rfl rfl ?_ H
  repeat' refine And.intro (fun h => ?_) (fun h => ?_)
  all_goals show _ = _
  all_goals grind [oneOf, rimmL]
def rightL (op rd rs1 rs2 n : Int) : Bool := decide ((formL op).f ≠ 0) && rregL rd (hasD (formL op).f) && rregL rs1 (hasA (formL op).f) && rregL rs2 (hasB (formL op).f) && rimmL (formL op).f n
theorem right_ev (op rd rs1 rs2 n : Int) : evF (pgR fx rowsD) 15 [.d (insD op rd rs1 rs2 n)] H = some (.d (.bool (rightL op rd rs1 rs2 n)), H) := by
  refine evF_wp tbl15 rfl rfl ?_ H
  repeat' (first
    | refine And.intro (fun h => ?_) (fun h => ?_)
    | refine Exists.intro _ (Exists.intro _ (And.intro (form_ev _ _) ?_))
    | refine Exists.intro _ (Exists.intro _ (And.intro (Has_ev _ _) ?_))
    | refine Exists.intro _ (Exists.intro _ (And.intro (rreg_ev _ _ _) ?_))
    | refine Exists.intro _ (Exists.intro _ (And.intro (rimm_ev _ _ _) ?_)))
  all_goals show _ = _
  all_goals grind [oneOf, rightL]
theorem rchk_ev (op rd rs1 rs2 n : Int) : evF (pgR fx rowsD) 11 [.d (insD op rd rs1 rs2 n)] H = some (.d (.int .i64 (if rightL op rd rs1 rs2 n then 0 else 11)), H) := by
  refine evF_wp tbl11 rfl rfl ?_ H
  repeat' (first
    | refine And.intro (fun h => ?_) (fun h => ?_)
    | refine Exists.intro _ (Exists.intro _ (And.intro (right_ev _ op rd rs1 rs2 n) ?_)))
  all_goals show _ = _
  all_goals grind [oneOf]
def rbitsL (n f c : Int) : Int := andI .u32 (IntKind.u32.wrap (shrI .i64 n f)) (IntKind.u32.wrap (shlI .u32 1 c - 1))
theorem rbits_ev (n f c : Int) (hf : 0 ≤ f) (hc : 0 ≤ c) : evF (pgR fx rowsD) 44 [.d (.int .i64 n), .d (.int .u32 f), .d (.int .u32 c)] H = some (.d (.int .u32 (rbitsL n f c)), H) := by
  refine evF_wp tbl44 rfl rfl ?_ H
  refine And.intro hf ?_
  refine And.intro hc ?_
  exact rfl
def rwordL (r : Rw) (rd rs1 rs2 n : Int) : Int :=
  let w := orU (orU (orU (orU r.c (shU r.f3 12)) (shU (u32 rd) 7)) (shU (u32 rs1) 15)) (shU (u32 rs2) 20)
  if r.f = 82 then orU w (shU r.f7 25)
  else if r.f = 73 then orU w (shU (rbitsL n 0 12) 20)
  else if r.f = 72 ∨ r.f = 104 then orU (orU w (shU r.f7 25)) (shU (u32 n) 20)
  else if r.f = 83 then orU (orU w (shU (rbitsL n 0 5) 7)) (shU (rbitsL n 5 7) 25)
  else if r.f = 66 then orU (orU (orU (orU w (shU (rbitsL n 11 1) 7)) (shU (rbitsL n 1 4) 8)) (shU (rbitsL n 5 6) 25)) (shU (rbitsL n 12 1) 31)
  else if r.f = 85 then orU w (shU (rbitsL n 0 20) 12)
  else if r.f = 74 then orU (orU (orU (orU w (shU (rbitsL n 12 8) 12)) (shU (rbitsL n 11 1) 20)) (shU (rbitsL n 1 10) 21)) (shU (rbitsL n 20 1) 31)
  else w
theorem rword_ev (op rd rs1 rs2 n : Int) : evF (pgR fx rowsD) 27 [.d (insD op rd rs1 rs2 n)] H = some (.d (.int .u32 (rwordL (formL op) rd rs1 rs2 n)), H) := by
  refine evF_wp tbl27 rfl rfl ?_ H
  repeat' (first
    | refine And.intro (fun h => ?_) (fun h => ?_)
    | refine And.intro (grew_self _) ?_
    | refine Exists.intro _ (Exists.intro _ (And.intro (form_ev _ _) ?_))
    | refine Exists.intro _ (Exists.intro _ (And.intro (rbits_ev _ _ _ _ (by decide) (by decide)) ?_)))
  all_goals show _ = _
  all_goals simp only [oneOf, rwordL, orU, shU, u32]
  all_goals grind
theorem renc_ev (op rd rs1 rs2 n : Int) : evF (pgR fx rowsD) 9 [.d (insD op rd rs1 rs2 n)] H = some (if rightL op rd rs1 rs2 n then .tup [.d (.int .u32 (rwordL (formL op) rd rs1 rs2 n)), .d (.int .i64 0)] else .tup [.d (.int .u32 0), .d (.int .i64 11)], H) := by
  refine evF_wp tbl9 rfl rfl ?_ H
  repeat' (first
    | refine And.intro (fun h => ?_) (fun h => ?_)
    | refine And.intro (grew_self _) ?_
    | refine Exists.intro _ (Exists.intro _ (And.intro (right_ev _ op rd rs1 rs2 n) ?_))
    | refine Exists.intro _ (Exists.intro _ (And.intro (rword_ev _ op rd rs1 rs2 n) ?_)))
  all_goals show _ = _
  all_goals grind [oneOf]
def partL (w f c : Int) : Int := andI .u32 (shrI .u32 w f) (IntKind.u32.wrap (shlI .u32 1 c - 1))
theorem part_ev (w f c : Int) (hf : 0 ≤ f) (hc : 0 ≤ c) : evF (pgR fx rowsD) 47 [.d (.int .u32 w), .d (.int .u32 f), .d (.int .u32 c)] H = some (.d (.int .u32 (partL w f c)), H) := by
  refine evF_wp tbl47 rfl rfl ?_ H
  refine And.intro hf ?_
  refine And.intro hc ?_
  exact rfl
def rsgnL (n c : Int) : Int := if andI .u32 (shrI .u32 n (IntKind.u32.wrap (c - 1))) 1 = 1 then IntKind.i64.wrap (IntKind.i64.wrap n - shlI .i64 1 c) else IntKind.i64.wrap n
theorem u32_nn (n : Int) : 0 ≤ IntKind.u32.wrap n := by rw [u32m]; omega
theorem rsgn_ev (n c : Int) (hc : 0 ≤ c) : evF (pgR fx rowsD) 48 [.d (.int .u32 n), .d (.int .u32 c)] H = some (.d (.int .i64 (rsgnL n c)), H) := by
  refine evF_wp tbl48 rfl rfl ?_ H
  refine And.intro (u32_nn _) ?_
  refine And.intro (fun h => ?_) (fun h => ?_)
  · refine And.intro hc ?_
    show _ = _
    grind [oneOf, rsgnL]
  · show _ = _
    grind [oneOf, rsgnL]
def gimmL (c w : Int) : Int :=
  if c = 73 then rsgnL (partL w 20 12) 12
  else if c = 72 then IntKind.i64.wrap (partL w 20 6)
  else if c = 104 then IntKind.i64.wrap (partL w 20 5)
  else if c = 83 then rsgnL (orU (partL w 7 5) (shU (partL w 25 7) 5)) 12
  else if c = 66 then rsgnL (orU (orU (orU (shU (partL w 8 4) 1) (shU (partL w 25 6) 5)) (shU (partL w 7 1) 11)) (shU (partL w 31 1) 12)) 13
  else if c = 85 then rsgnL (partL w 12 20) 20
  else if c = 74 then rsgnL (orU (orU (orU (shU (partL w 21 10) 1) (shU (partL w 20 1) 11)) (shU (partL w 12 8) 12)) (shU (partL w 31 1) 20)) 21
  else 0
def gfL (b : Bool) (w f : Int) : Int := if b then IntKind.i64.wrap (partL w f 5) else 0
def guessD (op w : Int) : D := insD op (gfL (hasD (formL op).f) w 7) (gfL (hasA (formL op).f) w 15) (gfL (hasB (formL op).f) w 20) (gimmL (formL op).f w)
set_option maxHeartbeats 1000000 in
theorem guess_ev (op w : Int) : evF (pgR fx rowsD) 33 [.d (.int .i64 op), .d (.int .u32 w)] H = some (.d (guessD op w), H) := by
  refine evF_wp tbl33 rfl rfl ?_ H
  repeat' (first
    | refine And.intro (fun h => ?_) (fun h => ?_)
    | refine And.intro (grew_self _) ?_
    | refine Exists.intro _ (Exists.intro _ (And.intro (form_ev _ _) ?_))
    | refine Exists.intro _ (Exists.intro _ (And.intro (Has_ev _ _) ?_))
    | refine Exists.intro _ (Exists.intro _ (And.intro (part_ev _ _ _ _ (by decide) (by decide)) ?_))
    | refine Exists.intro _ (Exists.intro _ (And.intro (rsgn_ev _ _ _ (by decide)) ?_)))
  all_goals show _ = _
  all_goals simp only [oneOf, guessD, gfL, gimmL, insD, orU, shU]
  all_goals grind
end
end Go.Vm.Rv
