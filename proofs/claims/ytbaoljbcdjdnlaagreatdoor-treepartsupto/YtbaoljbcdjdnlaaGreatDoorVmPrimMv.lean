import Derived.Test.YtbaoljbcdjdnlaaGreatDoorVmPrimCut
import Derived.Test.YtbaoljbcdjdnlaaGreatDoorVmFrame
set_option linter.unusedSimpArgs false
set_option linter.unusedVariables false
namespace Go.Vm
def PrimOk (F : List V → Hp → Option (V × Hp)) : Prop := ∀ a h r h', F a h = some (r, h') → undL 0 a = true ∧ r.und 0 = true ∧ h' = h ∧ ∀ H, F a H = some (r, H)
theorem primJoin_mv : PrimOk primJoin := by
  intro a h r h' hh
  unfold primJoin at hh
  split at hh
  · split at hh
    · rename_i xs hx
      split at hh
      · rename_i hc; cases hh; exact ⟨rfl, rfl, rfl, fun H => by simp only [primJoin, hx, if_pos hc]⟩
      · cases hh
    · cases hh
  · cases hh
theorem primFmt_mv : PrimOk primFmt := by
  intro a h r h' hh
  unfold primFmt at hh
  split at hh
  · split at hh
    · rename_i hc; cases hh; exact ⟨rfl, rfl, rfl, fun H => by simp only [primFmt, if_pos hc]⟩
    · cases hh
  · cases hh
theorem primCut_mv : PrimOk primCut := by
  intro a h r h' hh
  unfold primCut at hh
  split at hh
  · split at hh
    · rename_i hc; cases hh; exact ⟨rfl, rfl, rfl, fun H => by simp only [primCut, if_pos hc]⟩
    · cases hh
  · cases hh
theorem primIndexByte_mv : PrimOk primIndexByte := by
  intro a h r h' hh
  unfold primIndexByte at hh
  split at hh
  · cases hh; exact ⟨rfl, rfl, rfl, fun H => rfl⟩
  · cases hh
end Go.Vm
