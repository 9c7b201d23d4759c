import Derived.Test.YtbaoljbcdjdnlaaGreatDoorTreW19
set_option linter.unusedSimpArgs false
set_option linter.unusedVariables false
namespace Go.Vm.Tre
open Go.Vm.Tp
set_option maxRecDepth 10000
set_option linter.unusedSimpArgs false
section
variable {fx : Nat → Option Obj} (H : Hp)
theorem ints_self (l : List Int) (hl : l.length ≤ 1048576) : evF (pgL fx) n_plain_Ints [ints l, ints l] H = some (boo true, H) := by
  refine evF_wq t_plain_Ints rfl rfl ?_ H
  have hnl : (l.map (D.int .i64)).length = l.length := List.length_map ..
  repeat' (first | refine run ⟨?_⟩ | fail)
  refine and_f (by simp) ?_
  repeat' (first | refine run ⟨?_⟩ | fail)
  refine wq_loop (α := Nat) (fun i => l.length - i) (fun i => [(0, ints l), (1, ints l), (12, i64 l.length), (13, i64 i)]) (fun _ => []) (fun i => i ≤ l.length) ?_ 0 (Nat.zero_le _) ?_ rfl
  · intro i hi
    repeat' (first | refine run ⟨?_⟩ | fail)
    refine And.intro (fun h => ?_) (fun h => ?_)
    · replace h := of_decide_eq_true h
      have hlt : i < l.length := by omega
      have hg : (l.map (D.int .i64))[i]? = some (D.int .i64 (l.getD i 0)) := getK hlt
      repeat' (first | refine run ⟨?_⟩ | refine pickD (d := D.int .i64 (l.getD i 0)) (And.intro (Int.natCast_nonneg i) hg) ?_ | fail)
      refine and_f (by simp) ?_
      repeat' (first | refine run ⟨?_⟩ | fail)
      exact ⟨i + 1, by omega, by omega, by rw [i64w (by omega)]; rfl, rfl⟩
    · repeat' (first | refine run ⟨?_⟩ | fail)
      exact rfl
  · show [_, _, (12, i64 ((l.map (D.int .i64)).length : Int)), _] = _
    rw [hnl]; rfl
set_option maxHeartbeats 1000000 in
theorem tree_self (t : List Nd) (hf : Fine t) : evF (pgL fx) n_plain_Tree [.d (treeD t), .d (treeD t)] H = some (boo true, H) := by
  refine evF_wq t_plain_Tree rfl rfl ?_ H
  have htl := hf.len
  have hnl : (t.map Nd.D).length = t.length := List.length_map ..
  repeat' (first | refine run ⟨?_⟩ | fail)
  refine and_f (by simp) ?_
  repeat' (first | refine run ⟨?_⟩ | fail)
  refine wq_loop (α := Nat) (fun i => t.length - i) (fun i => [(3, .ptr 1 0), (16, .d (.sl (t.map Nd.D))), (17, i64 t.length), (18, i64 i)]) (fun _ => [.box [.d (.sl (t.map Nd.D))], .box [.d (.sl (t.map Nd.D))]]) (fun i => i ≤ t.length) ?_ 0 (Nat.zero_le _) ?_ rfl
  · intro i hi
    repeat' (first | refine run ⟨?_⟩ | fail)
    refine And.intro (fun h => ?_) (fun h => ?_)
    · replace h := of_decide_eq_true h
      have hlt : i < t.length := by omega
      obtain ⟨⟨xk, xt, xv, xks, xf, xe⟩, hx⟩ : ∃ x, x = nd t i := ⟨_, rfl⟩
      have hxm : (⟨xk, xt, xv, xks, xf, xe⟩ : Nd) ∈ t := by rw [hx]; exact nd_mem hlt
      have hxk := hf.kid _ hxm
      have hND : (t.map Nd.D)[i]? = some (Nd.D ⟨xk, xt, xv, xks, xf, xe⟩) := by rw [hx]; exact (ndD_at (k := (i : Int)) (by omega) (by omega)).2
      repeat' (first | refine run ⟨?_⟩ | refine pickD (d := Nd.D ⟨xk, xt, xv, xks, xf, xe⟩) (And.intro (Int.natCast_nonneg i) hND) ?_ | refine gd_f (by simp) ?_ | refine ca (ints_self _ xks hxk) ?_ | fail)
      exact ⟨i + 1, by omega, by omega, by rw [i64w (by omega)]; rfl, rfl⟩
    · repeat' (first | refine run ⟨?_⟩ | fail)
      exact rfl
  · show [_, _, (17, i64 ((t.map Nd.D).length : Int)), _] = _
    rw [hnl]; rfl

end
end Go.Vm.Tre
