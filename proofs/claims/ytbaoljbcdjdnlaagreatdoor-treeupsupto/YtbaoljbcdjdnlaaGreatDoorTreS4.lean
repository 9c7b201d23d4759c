import Derived.Test.YtbaoljbcdjdnlaaGreatDoorTreW26
import Derived.Test.YtbaoljbcdjdnlaaGreatDoorTreW18
import Derived.Test.YtbaoljbcdjdnlaaGreatDoorTreW20
/- The law: parents and depth. -/
namespace Go.Vm.Tre
open Go.Vm.Tp
set_option maxRecDepth 10000
section
variable {fx : Nat → Option Obj} (H : Hp)
theorem par_len (t : List Nd) (hf : Fine t) : (parA t).1.length ≤ 1048576 := by
  unfold parA
  cases hc : checkB t with
  | false => rw [if_neg Bool.false_ne_true]; exact Nat.zero_le _
  | true =>
    obtain ⟨up, hT⟩ := treeOk hc
    rw [if_pos rfl, hT.upT, hT.up.len]
    exact hf.len
theorem lawups_ev (t : List Nd) (hf : Fine t) : evF (pgL fx) n_law13_TreeUps [.d (treeD t)] H = some (boo true, H) := by
  refine evF_wq t_law13_TreeUps rfl rfl ?_ H
  have h1 := fun H => par_ev (fx := fx) H t hf
  have h2 := fun H => rpar_ev (fx := fx) H t hf
  have h3 := fun H => dep_ev (fx := fx) H t hf
  have h4 := fun H => rdep_ev (fx := fx) H t hf
  have h5 := fun H => ints_self (fx := fx) H (parA t).1 (par_len t hf)
  generalize parA t = p at h1 h2 h5
  generalize depA t = q at h3 h4
  obtain ⟨p, e⟩ := p
  obtain ⟨d, g⟩ := q
  simp only at h1 h2 h3 h4 h5
  have r1 : decide (e = e) = true := decide_eq_true rfl
  have r2 : decide (d = d) = true := decide_eq_true rfl
  have r3 : decide (g = g) = true := decide_eq_true rfl
  repeat' (first | refine run ⟨?_⟩ | refine ca (h1 _) ?_ | refine ca (h2 _) ?_ | refine ca (h3 _) ?_ | refine ca (h4 _) ?_ | refine ca (h5 _) ?_ | refine ca (small_ev _) ?_ | fail)
  exact rfl
end
end Go.Vm.Tre
