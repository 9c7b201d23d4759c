import Derived.Test.YtbaoljbcdjdnlaaGreatDoorVmSt
set_option linter.unusedSimpArgs false
set_option linter.unusedVariables false
namespace Go.Vm
section
variable {b : Bool} {X Y : Prop}
theorem b1 (x : X) (h : b = true := by first | with_reducible rfl | exact rfl | exact decide_eq_true (by assumption) | assumption) : (b = true → X) ∧ (b = false → Y) := and_t h x
theorem b2 (y : Y) (h : b = false := by first | with_reducible rfl | exact rfl | exact decide_eq_false (by assumption) | assumption) : (b = true → X) ∧ (b = false → Y) := and_f h y
theorem b3 (x : X) (h : b = true := by first | with_reducible rfl | exact rfl | exact decide_eq_true (by assumption) | assumption) : (b = false → Y) ∧ (b = (!false) → X) := gd_t h x
theorem b4 (y : Y) (h : b = false := by first | with_reducible rfl | exact rfl | exact decide_eq_false (by assumption) | assumption) : (b = false → Y) ∧ (b = (!false) → X) := gd_f h y
theorem b5 (x : X) (h : b = true := by first | with_reducible rfl | exact rfl | exact decide_eq_true (by assumption) | assumption) : (b = true → X) ∧ (b = (!true) → Y) := gt_t h x
theorem b6 (y : Y) (h : b = false := by first | with_reducible rfl | exact rfl | exact decide_eq_false (by assumption) | assumption) : (b = true → X) ∧ (b = (!true) → Y) := gt_f h y
end
theorem pk {α : Type} {l : List α} {n : Int} {d : α} {k : α → Prop} (hk : k d) (h : 0 ≤ n ∧ l[n.toNat]? = some d := by exact ⟨by first | decide | exact Int.NonNeg.mk _, rfl⟩) : ∃ c, (0 ≤ n ∧ l[n.toNat]? = some c) ∧ k c := ⟨d, h, hk⟩
structure Left (P : Prop) : Prop where
  f : P
theorem stp {P Q : Prop} (q : Q) (g : Q → P := by
  first
    | exact q_seq | exact q_block | exact q_reg | exact q_cond | exact q_exit | exact q_ret | exact q_skip | exact q_scope | exact q_draw | exact q_loop | exact q_mkrow | exact q_bindto | exact q_freeze | exact q_newrow | exact q_bindrow) : P := g q
theorem stq {P Q : Prop} (q : Q) (g : Q → P := by
  first
    | exact ks_nrm | exact ks_exit | exact ks_ret | exact kb_nrm | exact kb_hit rfl | exact kb_exit rfl | exact kb_ret | exact kl_nrm | exact kl_exit | exact kl_ret
    | exact And.intro (grew_self _)
    | exact fun x => b1 x | exact fun x => b2 x | exact fun x => b3 x | exact fun x => b4 x | exact fun x => b5 x | exact fun x => b6 x
    | exact fun x => pk x | exact And.intro rfl) : P := g q
theorem run {P Q : Prop} (q : Left Q) (h : Left Q → P := by
  intro q
  first
    | ((with_reducible show WQ _ _ _ _ _ _ _); refine stp ?_)
    | ((conv => whnf); first | (with_reducible show WQ _ _ _ _ _ _ _) | refine stq ?_)
  repeat' (first
    | ((with_reducible show WQ _ _ _ _ _ _ _); refine stp ?_)
    | ((conv => whnf); first | (with_reducible show WQ _ _ _ _ _ _ _) | refine stq ?_)
    | fail)
  exact q.f) : P := h q
end Go.Vm
