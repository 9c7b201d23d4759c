import Derived.Test.YtbaoljbcdjdnlaaGreatDoorTreW32
import Derived.Test.YtbaoljbcdjdnlaaGreatDoorTreW18
import Derived.Test.YtbaoljbcdjdnlaaGreatDoorTreW20
set_option linter.unusedSimpArgs false
set_option linter.unusedVariables false
namespace Go.Vm.Tre
open Go.Vm.Tp
set_option maxRecDepth 10000
section
variable {fx : Nat → Option Obj} (H : Hp)
set_option maxHeartbeats 1000000 in
theorem lawparts_ev (t : List Nd) (hf : Fine t) (n : Int) (hn : I64 n) : evF (pgL fx) n_law13_TreeParts [.d (treeD t), i64 n] H = some (boo true, H) := by
  refine evF_wq t_law13_TreeParts rfl rfl ?_ H
  have h1 := fun H => sub_ev (fx := fx) H t hf n hn
  have h2 := fun H => rsub_ev (fx := fx) H t hf n
  have h3 := type_ev (fx := fx) t hf n
  have h4 := rtype_ev (fx := fx) t hf n
  have h5 := fun H => tree_self (fx := fx) H (subA t n).1 (subA_fine hf n)
  generalize tyA t n = p at h3 h4
  generalize subA t n = q at h1 h2 h5
  obtain ⟨p, e⟩ := p
  obtain ⟨u, g⟩ := q
  simp only at h1 h2 h3 h4 h5
  have r1 : decide (e = e) = true := decide_eq_true rfl
  have r2 : decide (p = p) = true := decide_eq_true rfl
  have r3 : decide (g = g) = true := decide_eq_true rfl
  repeat' (first | refine run ⟨?_⟩ | refine ca (h1 _) ?_ | refine ca (h2 _) ?_ | refine ca (h3 _) ?_ | refine ca (h4 _) ?_ | refine ca (h5 _) ?_ | refine ca (small_ev _) ?_ | fail)
  exact rfl
end
end Go.Vm.Tre
