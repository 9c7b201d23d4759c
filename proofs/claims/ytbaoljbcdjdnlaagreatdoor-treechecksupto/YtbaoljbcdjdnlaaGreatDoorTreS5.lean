import Derived.Test.YtbaoljbcdjdnlaaGreatDoorTreW30
import Derived.Test.YtbaoljbcdjdnlaaGreatDoorTreW18
namespace Go.Vm.Tre
open Go.Vm.Tp
set_option maxRecDepth 10000
section
variable {fx : Nat → Option Obj} (H : Hp)
theorem pr_fit {t : List Nd} (hf : Fine t) {up : List Int} (hT : TreeOk t up) : 0 + wl (prT t) ≤ BIG ∧ J [] (prT t) = prS t := by
  have hp := prT_len hT
  have ha : AllT (prT t) := prN_tok hT.nod hf.iv _ _
  have hw := wl_le (n := 64) (prT t) fun a h => (ha a h).2
  refine ⟨by unfold BIG; omega, ?_⟩
  exact J_nil (prT t) fun x hx => by
    have := (ha x hx).1
    cases x with
    | nil => exact absurd rfl this
    | cons c r => simp
set_option maxHeartbeats 1000000 in
theorem rprint_ev (t : List Nd) (hf : Fine t) : evF (pgL fx) n_ref13_Print [.d (treeD t)] H = some (.tup [str (prA t).1, i64 (prA t).2], H) := by
  refine evF_wq t_ref13_Print rfl rfl ?_ H
  have htl := hf.len
  have hnl : (t.map Nd.D).length = t.length := List.length_map ..
  have hr := fun H => rright_ev (fx := fx) H t hf
  unfold prA
  cases hc : checkB t with
  | false =>
    rw [hc] at hr
    repeat' (first | refine run ⟨?_⟩ | refine ca (hr _) ?_ | fail)
    exact rfl
  | true =>
    rw [hc] at hr
    rw [if_pos rfl]
    obtain ⟨up, hT⟩ := treeOk hc
    have h1 := hT.lo
    obtain ⟨f1, f2⟩ := pr_fit hf hT
    have hn := rnode_ok (fx := fx) hT.nod hf t.length (Nat.le_refl _) ((t.length - 1 : Nat) : Int) (by omega) (by omega) [] [] f1
    have hw : IntKind.i64.wrap (((t.map Nd.D).length : Int) - 1) = ((t.length - 1 : Nat) : Int) := by rw [hnl, i64w (by omega)]; omega
    have hcall : evF (pgL fx) n_ref13_printer_node [.ptr 1 0, i64 (IntKind.i64.wrap (((t.map Nd.D).length : Int) - 1))] [TB t, .box [.d (.sl (t.map Nd.D)), str []]] = some (.tup [], [TB t, .box [.d (.sl (t.map Nd.D)), str (J [] (prT t))]]) := by
      rw [hw]
      exact evF_at (mv fx) [1] hn rfl rfl rfl rfl rfl
    rw [f2] at hcall
    repeat' (first | refine run ⟨?_⟩ | refine ca (hr _) ?_ | refine ca (hcall) ?_ | fail)
    exact rfl
theorem lawchecks_ev (t : List Nd) (hf : Fine t) : evF (pgL fx) n_law13_TreeChecks [.d (treeD t)] H = some (boo true, H) := by
  refine evF_wq t_law13_TreeChecks rfl rfl ?_ H
  have h1 := fun H => print_ev (fx := fx) H t hf
  have h2 := fun H => rprint_ev (fx := fx) H t hf
  have h3 := fun H => check_ev (fx := fx) H t hf
  have h4 := fun H => rcheck_ev (fx := fx) H t hf
  generalize prA t = p at h1 h2
  generalize errT (checkB t) = q at h3 h4
  obtain ⟨p, e⟩ := p
  simp only at h1 h2
  have r1 : decide (e = e) = true := decide_eq_true rfl
  have r2 : decide (p = p) = true := decide_eq_true rfl
  have r3 : decide (q = q) = true := decide_eq_true rfl
  repeat' (first | refine run ⟨?_⟩ | refine ca (h1 _) ?_ | refine ca (h2 _) ?_ | refine ca (h3 _) ?_ | refine ca (h4 _) ?_ | refine ca (small_ev _) ?_ | fail)
  exact rfl
end
end Go.Vm.Tre
