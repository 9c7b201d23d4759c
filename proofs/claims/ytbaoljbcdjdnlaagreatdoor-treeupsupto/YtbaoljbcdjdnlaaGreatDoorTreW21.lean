import Derived.Test.YtbaoljbcdjdnlaaGreatDoorTreW6
import Derived.Test.YtbaoljbcdjdnlaaGreatDoorTreR
import Derived.Test.YtbaoljbcdjdnlaaGreatDoorTreP12
import Derived.Test.YtbaoljbcdjdnlaaGreatDoorVmSt2
/- The document's nodes: kinds, forms, names, numbers. -/
namespace Go.Vm.Tre
open Go.Vm.Tp
open Go.Vm.Lex (nameB)
set_option maxRecDepth 10000
section
variable {fx : Nat → Option Obj} (H : Hp)
theorem risType_ev (k : Int) : evF (pgL fx) n_ref13_IsType [i64 k] H = some (boo (isTy k), H) := by
  refine evF_wq t_ref13_IsType rfl rfl ?_ H
  unfold isTy
  by_cases h1 : 10 ≤ k
  · refine run ⟨?_⟩
    rw [decide_eq_true h1]; exact rfl
  · refine run ⟨?_⟩
    rw [decide_eq_false h1]; exact rfl
theorem risStmt_ev (k : Int) : evF (pgL fx) n_ref13_IsStmt [i64 k] H = some (boo (isSt k), H) := by
  refine evF_wq t_ref13_IsStmt rfl rfl ?_ H
  unfold isSt
  by_cases h1 : 21 ≤ k
  · refine run ⟨?_⟩
    rw [decide_eq_true h1]; exact rfl
  · refine run ⟨?_⟩
    rw [decide_eq_false h1]; exact rfl
theorem risPattern_ev (k : Int) : evF (pgL fx) n_ref13_IsPattern [i64 k] H = some (boo (isPa k), H) := by
  refine evF_wq t_ref13_IsPattern rfl rfl ?_ H
  unfold isPa
  by_cases h1 : 50 ≤ k
  · refine run ⟨?_⟩
    rw [decide_eq_true h1]; exact rfl
  · refine run ⟨?_⟩
    rw [decide_eq_false h1]; exact rfl
theorem risExpr_ev (k : Int) : evF (pgL fx) n_ref13_IsExpr [i64 k] H = some (boo (isEx k), H) := by
  refine evF_wq t_ref13_IsExpr rfl rfl ?_ H
  unfold isEx
  by_cases h0 : k = 20
  · refine run ⟨?_⟩
    rw [decide_eq_true h0]; exact rfl
  by_cases h1 : 30 ≤ k
  · by_cases h2 : k ≤ 46
    · refine run ⟨?_⟩
      rw [decide_eq_false h0, decide_eq_true h1, decide_eq_true h2]; exact rfl
    · refine run ⟨?_⟩
      rw [decide_eq_false h0, decide_eq_true h1, decide_eq_false h2]; exact rfl
  · refine run ⟨?_⟩
    rw [decide_eq_false h0, decide_eq_false h1]; exact rfl
theorem ris_ev (k : Int) (c : UInt8) : evF (pgL fx) n_ref13_is [i64 k, u8 c] H = some (boo (lettR c k), H) := by
  refine evF_wq t_ref13_is rfl rfl ?_ H
  by_cases c84 : c = 84
  · subst c84
    repeat' (first | refine run ⟨?_⟩ | refine ca (risType_ev _ _) ?_ | fail)
    exact rfl
  by_cases c83 : c = 83
  · subst c83
    repeat' (first | refine run ⟨?_⟩ | refine ca (risStmt_ev _ _) ?_ | fail)
    exact rfl
  by_cases c69 : c = 69
  · subst c69
    repeat' (first | refine run ⟨?_⟩ | refine ca (risExpr_ev _ _) ?_ | fail)
    exact rfl
  by_cases c80 : c = 80
  · subst c80
    repeat' (first | refine run ⟨?_⟩ | refine ca (risPattern_ev _ _) ?_ | fail)
    exact rfl
  by_cases c66 : c = 66
  · subst c66
    refine run ⟨?_⟩
    exact rfl
  by_cases c73 : c = 73
  · subst c73
    by_cases k2 : k = 2
    · subst k2
      refine run ⟨?_⟩
      exact rfl
    by_cases k3 : k = 3
    · subst k3
      refine run ⟨?_⟩
      exact rfl
    rw [show lettR 73 k = decide (k = 4) by simp [lettR, k2, k3]]
    refine run ⟨?_⟩
    exact rfl
  by_cases c70 : c = 70
  · subst c70
    refine run ⟨?_⟩
    exact rfl
  by_cases c86 : c = 86
  · subst c86
    refine run ⟨?_⟩
    exact rfl
  by_cases c77 : c = 77
  · subst c77
    refine run ⟨?_⟩
    exact rfl
  by_cases c65 : c = 65
  · subst c65
    refine run ⟨?_⟩
    exact rfl
  by_cases c74 : c = 74
  · subst c74
    refine run ⟨?_⟩
    exact rfl
  have e : lettR c k = decide (k = 20 ∨ k = 45) := by unfold lettR; simp [c84, c83, c69, c80, c66, c73, c70, c86, c77, c65, c74]
  rw [e]
  have n84 : decide ((c.toNat : Int) = 84) = false := u8ne c84 rfl
  have n83 : decide ((c.toNat : Int) = 83) = false := u8ne c83 rfl
  have n69 : decide ((c.toNat : Int) = 69) = false := u8ne c69 rfl
  have n80 : decide ((c.toNat : Int) = 80) = false := u8ne c80 rfl
  have n66 : decide ((c.toNat : Int) = 66) = false := u8ne c66 rfl
  have n73 : decide ((c.toNat : Int) = 73) = false := u8ne c73 rfl
  have n70 : decide ((c.toNat : Int) = 70) = false := u8ne c70 rfl
  have n86 : decide ((c.toNat : Int) = 86) = false := u8ne c86 rfl
  have n77 : decide ((c.toNat : Int) = 77) = false := u8ne c77 rfl
  have n65 : decide ((c.toNat : Int) = 65) = false := u8ne c65 rfl
  have n74 : decide ((c.toNat : Int) = 74) = false := u8ne c74 rfl
  by_cases k20 : k = 20
  · subst k20
    refine run ⟨?_⟩
    exact rfl
  rw [show decide (k = 20 ∨ k = 45) = decide (k = 45) by simp [k20]]
  refine run ⟨?_⟩
  exact rfl
set_option maxHeartbeats 2000000 in
theorem rforms_ev (x : Nd) : evF (pgL fx) n_ref13_forms [ndV x] H = some (.d (.sl ((formsR x.k).map .str)), H) := by
  obtain ⟨k, t, v, kids, f, e⟩ := x
  refine evF_wq t_ref13_forms rfl rfl ?_ H
  by_cases c1 : k = 1
  · subst c1
    refine run ⟨?_⟩
    exact rfl
  by_cases c2 : k = 2
  · subst c2
    refine run ⟨?_⟩
    exact rfl
  by_cases c3 : k = 3
  · subst c3
    refine run ⟨?_⟩
    exact rfl
  by_cases c4 : k = 4
  · subst c4
    refine run ⟨?_⟩
    exact rfl
  by_cases c5 : k = 5
  · subst c5
    refine run ⟨?_⟩
    exact rfl
  by_cases c7 : k = 7
  · subst c7
    refine run ⟨?_⟩
    exact rfl
  by_cases c14 : k = 14
  · subst c14
    refine run ⟨?_⟩
    exact rfl
  by_cases c15 : k = 15
  · subst c15
    refine run ⟨?_⟩
    exact rfl
  by_cases c16 : k = 16
  · subst c16
    refine run ⟨?_⟩
    exact rfl
  by_cases c6 : k = 6
  · subst c6
    refine run ⟨?_⟩
    exact rfl
  by_cases c20 : k = 20
  · subst c20
    refine run ⟨?_⟩
    exact rfl
  by_cases c21 : k = 21
  · subst c21
    refine run ⟨?_⟩
    exact rfl
  by_cases c22 : k = 22
  · subst c22
    refine run ⟨?_⟩
    exact rfl
  by_cases c36 : k = 36
  · subst c36
    refine run ⟨?_⟩
    exact rfl
  by_cases c41 : k = 41
  · subst c41
    refine run ⟨?_⟩
    exact rfl
  by_cases c39 : k = 39
  · subst c39
    refine run ⟨?_⟩
    exact rfl
  by_cases c40 : k = 40
  · subst c40
    refine run ⟨?_⟩
    exact rfl
  by_cases c42 : k = 42
  · subst c42
    refine run ⟨?_⟩
    exact rfl
  by_cases c44 : k = 44
  · subst c44
    refine run ⟨?_⟩
    exact rfl
  by_cases c43 : k = 43
  · subst c43
    refine run ⟨?_⟩
    exact rfl
  by_cases c23 : k = 23
  · subst c23
    refine run ⟨?_⟩
    exact rfl
  by_cases c38 : k = 38
  · subst c38
    refine run ⟨?_⟩
    exact rfl
  by_cases c24 : k = 24
  · subst c24
    refine run ⟨?_⟩
    exact rfl
  by_cases c25 : k = 25
  · subst c25
    refine run ⟨?_⟩
    exact rfl
  by_cases c37 : k = 37
  · subst c37
    refine run ⟨?_⟩
    exact rfl
  by_cases c34 : k = 34
  · subst c34
    refine run ⟨?_⟩
    exact rfl
  by_cases c35 : k = 35
  · subst c35
    refine run ⟨?_⟩
    exact rfl
  by_cases c45 : k = 45
  · subst c45
    refine run ⟨?_⟩
    exact rfl
  by_cases c46 : k = 46
  · subst c46
    refine run ⟨?_⟩
    exact rfl
  by_cases c47 : k = 47
  · subst c47
    refine run ⟨?_⟩
    exact rfl
  by_cases c54 : k = 54
  · subst c54
    refine run ⟨?_⟩
    exact rfl
  have e0 : formsR k = [[]] := by
    unfold formsR
    simp only [c1, c2, c3, c4, c5, c7, c14, c15, c16, c6, c20, c21, c22, c36, c41, c39, c40, c42, c44, c43, c23, c38, c24, c25, c37, c34, c35, c45, c46, c47, c54, if_false, or_self]
  rw [e0]
  refine run ⟨?_⟩
  exact rfl
theorem rcounted_ev (x : Nd) : evF (pgL fx) n_ref13_counted [ndV x] H = some (boo (countR x.k x.v), H) := by
  obtain ⟨k, t, v, kids, f, e⟩ := x
  simp only
  refine evF_wq t_ref13_counted rfl rfl ?_ H
  by_cases h2 : k = 2
  · subst h2
    refine run ⟨?_⟩
    exact rfl
  by_cases hA : k = 7 ∨ k = 20 ∨ k = 21 ∨ k = 31 ∨ k = 53 ∨ k = 43
  · have e0 : countR k v = (decide (v = 0) || decide (v = 1)) := by unfold countR; rw [if_neg h2, if_pos hA]
    rw [e0]
    rcases hA with rfl | rfl | rfl | rfl | rfl | rfl
    all_goals
      by_cases h0 : v = 0
      · subst h0
        refine run ⟨?_⟩
        exact rfl
      · refine run ⟨?_⟩
        rw [decide_eq_false h0]; exact rfl
  have e1 : countR k v = (if k = 30 then decide (0 ≤ v) else if k = 52 then !decide (v = -9223372036854775808) else decide (v = 0)) := by unfold countR; rw [if_neg h2, if_neg hA]
  rw [e1]
  simp only [not_or] at hA
  obtain ⟨a1, a2, a3, a4, a5, a6⟩ := hA
  by_cases h30 : k = 30
  · subst h30
    refine run ⟨?_⟩
    exact rfl
  rw [if_neg h30]
  by_cases h52 : k = 52
  · subst h52
    refine run ⟨?_⟩
    exact rfl
  rw [if_neg h52]
  refine run ⟨?_⟩
  exact rfl
theorem rknown_ev (k : Int) : evF (pgL fx) n_ref13_known [i64 k] H = some (boo (knownB k), H) := by
  refine evF_wq t_ref13_known rfl rfl ?_ H
  repeat' (first | refine run ⟨?_⟩ | refine ca (risType_ev _ _) ?_ | refine ca (risStmt_ev _ _) ?_ | refine ca (risPattern_ev _ _) ?_ | refine And.intro (fun h => ?_) (fun h => ?_) | fail)
  all_goals
    show V.d (D.bool _) = V.d (D.bool _)
    refine congrArg (fun b => V.d (D.bool b)) ?_
    rw [Bool.eq_iff_iff]
    simp only [knownB, isTy, isSt, isPa, isEx, Bool.or_eq_true, Bool.and_eq_true, Bool.and_eq_false_iff, Bool.not_eq_true', Bool.not_false, Bool.not_true, decide_eq_true_eq, decide_eq_false_iff_not] at *
    constructor <;> intro hh <;> first | trivial | omega | exact absurd hh Bool.false_ne_true
def signN (s : List UInt8) : Int := if s = [124, 124] then 1 else if s = [38, 38] then 2 else if s = [61, 61] ∨ s = [33, 61] ∨ s = [60] ∨ s = [62] ∨ s = [60, 61] ∨ s = [62, 61] then 3 else if s = [43] ∨ s = [45] then 4 else if s = [42] ∨ s = [47] ∨ s = [37] then 5 else 0
theorem rsign_ev (s : List UInt8) : evF (pgL fx) n_ref13_Sign [str s] H = some (i64 (signN s), H) := by
  refine evF_wq t_ref13_Sign rfl rfl ?_ H
  by_cases c0 : s = [124, 124]
  · subst c0
    refine run ⟨?_⟩
    exact rfl
  by_cases c1 : s = [38, 38]
  · subst c1
    refine run ⟨?_⟩
    exact rfl
  by_cases c2 : s = [61, 61]
  · subst c2
    refine run ⟨?_⟩
    exact rfl
  by_cases c3 : s = [33, 61]
  · subst c3
    refine run ⟨?_⟩
    exact rfl
  by_cases c4 : s = [60]
  · subst c4
    refine run ⟨?_⟩
    exact rfl
  by_cases c5 : s = [62]
  · subst c5
    refine run ⟨?_⟩
    exact rfl
  by_cases c6 : s = [60, 61]
  · subst c6
    refine run ⟨?_⟩
    exact rfl
  by_cases c7 : s = [62, 61]
  · subst c7
    refine run ⟨?_⟩
    exact rfl
  by_cases c8 : s = [43]
  · subst c8
    refine run ⟨?_⟩
    exact rfl
  by_cases c9 : s = [45]
  · subst c9
    refine run ⟨?_⟩
    exact rfl
  by_cases c10 : s = [42]
  · subst c10
    refine run ⟨?_⟩
    exact rfl
  by_cases c11 : s = [47]
  · subst c11
    refine run ⟨?_⟩
    exact rfl
  by_cases c12 : s = [37]
  · subst c12
    refine run ⟨?_⟩
    exact rfl
  have e0 : signN s = 0 := by
    unfold signN
    simp only [c0, c1, c2, c3, c4, c5, c6, c7, c8, c9, c10, c11, c12, if_false, or_self]
  rw [e0]
  refine run ⟨?_⟩
  exact rfl
end
end Go.Vm.Tre
