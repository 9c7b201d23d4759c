import Derived.Test.YtlcaoocfajkljaaDoorRvW9
import Derived.Test.YtlcaoocfajkljaaDoorRvP
set_option linter.unusedSimpArgs false
set_option linter.unusedVariables false
namespace Go.Vm.Rv
set_option maxRecDepth 10000
/-- The reference's text. -/
def rtxtL (op rd r1 r2 n : Int) : List UInt8 :=
  if (formL op).f = 82 then nameL op ++ 32 :: (xL rd ++ 44 :: (xL r1 ++ 44 :: xL r2))
  else if (formL op).f = 73 then
    (if op = 4 ∨ 11 ≤ op ∧ op ≤ 17 then nameL op ++ 32 :: (xL rd ++ 44 :: (Lib.itoa n ++ 40 :: (xL r1 ++ [41])))
    else nameL op ++ 32 :: (xL rd ++ 44 :: (xL r1 ++ 44 :: Lib.itoa n)))
  else if (formL op).f = 72 ∨ (formL op).f = 104 then nameL op ++ 32 :: (xL rd ++ 44 :: (xL r1 ++ 44 :: Lib.itoa n))
  else if (formL op).f = 83 then nameL op ++ 32 :: (xL r2 ++ 44 :: (Lib.itoa n ++ 40 :: (xL r1 ++ [41])))
  else if (formL op).f = 66 then nameL op ++ 32 :: (xL r1 ++ 44 :: (xL r2 ++ 44 :: Lib.itoa n))
  else if (formL op).f = 85 ∨ (formL op).f = 74 then nameL op ++ 32 :: (xL rd ++ 44 :: Lib.itoa n)
  else nameL op
def sigB (op : Int) : Bool := decide (((rwC op).c = 3 ∨ (rwC op).c = 103) ↔ ((rwC op).f = 73 ∧ (op = 4 ∨ 11 ≤ op ∧ op ≤ 17)))
theorem sig_all (op : Int) (h1 : 1 ≤ op) (h2 : op ≤ 65) : ((rwC op).c = 3 ∨ (rwC op).c = 103) ↔ ((rwC op).f = 73 ∧ (op = 4 ∨ 11 ≤ op ∧ op ≤ 17)) := of_decide_eq_true (all_ops (p := fun op => sigB op = true) (by decide +kernel) op h1 h2)
theorem txt_same (op rd r1 r2 n : Int) (h1 : 1 ≤ op) (h2 : op ≤ 65) : txtL (rwC op) op rd r1 r2 n = rtxtL op rd r1 r2 n := by
  obtain ⟨hs, _⟩ := same op h1 h2
  have hr := range op h1 h2
  have hc := sig_all op h1 h2
  have hf : (rwC op).f = 82 ∨ (rwC op).f = 72 ∨ (rwC op).f = 73 ∨ (rwC op).f = 83 ∨ (rwC op).f = 66 ∨ (rwC op).f = 85 ∨ (rwC op).f = 74 ∨ (rwC op).f = 78 := by omega
  unfold txtL rtxtL
  rcases hf with hf | hf | hf | hf | hf | hf | hf | hf
  · have hg : (formL op).f = 82 := by omega
    simp [hf, hg]
  · have hg : (formL op).f = 72 ∨ (formL op).f = 104 := by omega
    have hn : ¬((rwC op).c = 3 ∨ (rwC op).c = 103) := by rw [hc]; omega
    rcases hg with hg | hg <;> simp [hf, hg, hn]
  · have hg : (formL op).f = 73 := by omega
    by_cases ho : op = 4 ∨ 11 ≤ op ∧ op ≤ 17
    · have hn : (rwC op).c = 3 ∨ (rwC op).c = 103 := hc.2 ⟨hf, ho⟩
      simp [hf, hg, hn, ho]
    · have hn : ¬((rwC op).c = 3 ∨ (rwC op).c = 103) := by rw [hc]; omega
      simp [hf, hg, hn, ho]
  · have hg : (formL op).f = 83 := by omega
    have hn : ¬((rwC op).c = 3 ∨ (rwC op).c = 103) := by rw [hc]; omega
    simp [hf, hg, hn]
  · have hg : (formL op).f = 66 := by omega
    have hn : ¬((rwC op).c = 3 ∨ (rwC op).c = 103) := by rw [hc]; omega
    simp [hf, hg, hn]
  · have hg : (formL op).f = 85 := by omega
    have hn : ¬((rwC op).c = 3 ∨ (rwC op).c = 103) := by rw [hc]; omega
    simp [hf, hg, hn]
  · have hg : (formL op).f = 74 := by omega
    have hn : ¬((rwC op).c = 3 ∨ (rwC op).c = 103) := by rw [hc]; omega
    simp [hf, hg, hn]
  · have hg : (formL op).f = 78 := by omega
    simp [hf, hg]
section
variable {fx : Nat → Option Obj} {rowsD : List D} {rw_ : Int → Rw} (R : RowsOk rowsD rw_) (H : Hp)
set_option maxHeartbeats 2000000 in
theorem rtext_ev (op rd r1 r2 n : Int) (s1 : Small rd) (s2 : Small r1) (s3 : Small r2) (s4 : Small n) : evF (pgR fx rowsD) 17 [.d (insD op rd r1 r2 n)] H = some (if rightL op rd r1 r2 n then .tup [.d (.str (rtxtL op rd r1 r2 n)), .d (.int .i64 0)] else .tup [.d (.str []), .d (.int .i64 11)], H) := by
  have l0 := name_short op
  have l1 := xL_len rd s1
  have l2 := xL_len r1 s2
  have l3 := xL_len r2 s3
  have l4 := s4.2.2
  refine evF_wp tbl17 rfl rfl ?_ H
  cases hc : rightL op rd r1 r2 n with
  | false =>
    refine Exists.intro _ (Exists.intro _ (And.intro ((right_ev _ op rd r1 r2 n).trans (by rw [hc])) ?_))
    refine And.intro (fun h => ?_) (fun h => ?_)
    · rfl
    · exfalso; simp at h
  | true =>
    refine Exists.intro _ (Exists.intro _ (And.intro ((right_ev _ op rd r1 r2 n).trans (by rw [hc])) ?_))
    refine And.intro (fun h => ?_) (fun h => ?_)
    · exfalso; simp at h
    refine Exists.intro _ (Exists.intro _ (And.intro (fmt_ev _ _ s4) ?_))
    refine Exists.intro _ (Exists.intro _ (And.intro (rname_ev _ _) ?_))
    refine And.intro (by first | omega | (simp only [List.length_append, List.length_cons, List.length_nil]; omega)) ?_
    refine Exists.intro _ (Exists.intro _ (And.intro (form_ev _ _) ?_))
    repeat' (first
      | refine And.intro (fun h => ?_) (fun h => ?_)
      | refine And.intro (grew_self _) ?_
      | refine Exists.intro _ (Exists.intro _ (And.intro (rx_ev _ _ (by assumption)) ?_))
      | refine Exists.intro _ (Exists.intro _ (And.intro (rname_ev _ _) ?_))
      | refine And.intro (by first | omega | (simp only [List.length_append, List.length_cons, List.length_nil]; omega)) ?_)
    all_goals show _ = _
    all_goals simp only [oneOf, if_true]
    all_goals simp only [rtxtL]
    all_goals simp at *
    all_goals try simp [*]
    all_goals first | (intros; exfalso; omega) | (rw [if_neg (by decide +kernel), if_pos (by decide +kernel)])
end
end Go.Vm.Rv
