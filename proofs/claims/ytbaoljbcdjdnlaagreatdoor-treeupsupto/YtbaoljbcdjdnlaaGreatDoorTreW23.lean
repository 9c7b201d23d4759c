import Derived.Test.YtbaoljbcdjdnlaaGreatDoorTreW22
/- The document's nodes: names; whether a node is right. -/
namespace Go.Vm.Tre
open Go.Vm.Tp
open Go.Vm.Lex (nameB)
set_option maxRecDepth 10000
theorem sign_in (s : List UInt8) : decide (0 < signN s) = decide (s ∈ signsL) := by
  unfold signN signsL
  by_cases c0 : s = [124, 124]
  · subst c0; decide
  by_cases c1 : s = [38, 38]
  · subst c1; decide
  by_cases c2 : s = [61, 61]
  · subst c2; decide
  by_cases c3 : s = [33, 61]
  · subst c3; decide
  by_cases c4 : s = [60]
  · subst c4; decide
  by_cases c5 : s = [62]
  · subst c5; decide
  by_cases c6 : s = [60, 61]
  · subst c6; decide
  by_cases c7 : s = [62, 61]
  · subst c7; decide
  by_cases c8 : s = [43]
  · subst c8; decide
  by_cases c9 : s = [45]
  · subst c9; decide
  by_cases c10 : s = [42]
  · subst c10; decide
  by_cases c11 : s = [47]
  · subst c11; decide
  by_cases c12 : s = [37]
  · subst c12; decide
  simp only [c0, c1, c2, c3, c4, c5, c6, c7, c8, c9, c10, c11, c12, if_false, or_self, List.mem_cons, List.not_mem_nil]
  decide
section
variable {fx : Nat → Option Obj} (H : Hp)
theorem rpicked_ev (s : List UInt8) (hs : s.length ≤ 1048576) : evF (pgL fx) n_ref13_picked [str s] H = some (boo ((cutT s).2.2 && nameB (cutT s).1 && nameB (cutT s).2.1), H) := by
  refine evF_wq t_ref13_picked rfl rfl ?_ H
  refine run ⟨?_⟩
  refine wq_loop (α := Nat) (fun i => s.length - i) (fun i => [(0, str s), (3, i64 i)]) (fun _ => []) (fun i => i ≤ s.length ∧ Lib.NoOcc s [58, 58] i) ?_ 0 ⟨Nat.zero_le _, fun j h => absurd h (Nat.not_lt_zero _)⟩ rfl rfl
  rintro i ⟨hi, hno⟩
  have w1 : IntKind.i64.wrap ((i : Int) + 1) = ((i + 1 : Nat) : Int) := by rw [i64w (by omega)]; rfl
  have w2 : IntKind.i64.wrap ((i : Int) + 2) = ((i + 2 : Nat) : Int) := by rw [i64w (by omega)]; rfl
  by_cases h : i + 1 < s.length
  · have h' : IntKind.i64.wrap ((i : Int) + 1) < (s.length : Int) := by omega
    have p0 : (0 : Int) ≤ IntKind.i64.wrap ((i : Int) + 2) := by omega
    have p1 : (i : Int).toNat ≤ (IntKind.i64.wrap ((i : Int) + 2)).toNat ∧ (IntKind.i64.wrap ((i : Int) + 2)).toNat ≤ s.length := by omega
    have ho := occ2 s i
    have ho' : decide (List.drop (i : Int).toNat (List.take (IntKind.i64.wrap ((i : Int) + 2)).toNat s) = [58, 58]) = Lib.occAt s [58, 58] i := by rw [w2]; exact ho
    have i0 : (0 : Int) ≤ (i : Int) := by omega
    cases hc : Lib.occAt s [58, 58] i with
    | true =>
      rw [hc] at ho'
      have hcut := cut_hit hno (by omega) hc
      have e1 : List.drop 0 (List.take (i : Int).toNat s) = s.take i := by rw [List.drop_zero]; rfl
      have e2 : List.drop (IntKind.i64.wrap ((i : Int) + 2)).toNat (List.take s.length s) = s.drop (i + 2) := by rw [List.take_length, w2]; rfl
      have q1 : 0 ≤ (i : Int).toNat ∧ (i : Int).toNat ≤ s.length := by omega
      have q2 : (IntKind.i64.wrap ((i : Int) + 2)).toNat ≤ s.length ∧ s.length ≤ s.length := by omega
      have n1 := fun H => rname_ev (fx := fx) H (s.take i) (by have := List.length_take_le i s; unfold maxLen; omega)
      have n2 := fun H => rname_ev (fx := fx) H (s.drop (i + 2)) (by have : (s.drop (i + 2)).length ≤ s.length := by simp
                                                                     unfold maxLen; omega)
      rw [hcut]
      simp only [Bool.true_and]
      cases hn : nameB (s.take i) with
      | false =>
        rw [hn, ← e1] at n1
        repeat' (first | refine run ⟨?_⟩ | refine And.intro i0 ?_ | refine And.intro p0 ?_ | refine And.intro p1 ?_ | refine and_t ho' ?_ | refine And.intro q1 ?_ | refine ca (n1 _) ?_ | fail)
        exact rfl
      | true =>
        rw [hn, ← e1] at n1
        cases hm : nameB (s.drop (i + 2)) with
        | false =>
          rw [hm, ← e2] at n2
          repeat' (first | refine run ⟨?_⟩ | refine And.intro i0 ?_ | refine And.intro p0 ?_ | refine And.intro p1 ?_ | refine and_t ho' ?_ | refine And.intro q1 ?_ | refine ca (n1 _) ?_ | refine And.intro q2 ?_ | refine ca (n2 _) ?_ | fail)
          exact rfl
        | true =>
          rw [hm, ← e2] at n2
          repeat' (first | refine run ⟨?_⟩ | refine And.intro i0 ?_ | refine And.intro p0 ?_ | refine And.intro p1 ?_ | refine and_t ho' ?_ | refine And.intro q1 ?_ | refine ca (n1 _) ?_ | refine And.intro q2 ?_ | refine ca (n2 _) ?_ | fail)
          exact rfl
    | false =>
      rw [hc] at ho'
      repeat' (first | refine run ⟨?_⟩ | refine And.intro i0 ?_ | refine And.intro p0 ?_ | refine And.intro p1 ?_ | refine and_f ho' ?_ | fail)
      refine ⟨i + 1, ⟨by omega, fun j hj => ?_⟩, by omega, by rw [w1], rfl⟩
      by_cases e : j = i
      · rw [e]; exact hc
      · exact hno j (by omega)
  · have h' : ¬ IntKind.i64.wrap ((i : Int) + 1) < (s.length : Int) := by omega
    refine run ⟨?_⟩
    rw [cut_miss hno (by omega)]; exact rfl
theorem rnamed_ev (x : Nd) (hx : x.t.length ≤ 1048576) : evF (pgL fx) n_ref13_named [ndV x] H = some (boo (nmB x.k x.t), H) := by
  obtain ⟨k, t, v, kids, f, e⟩ := x
  simp only at hx ⊢
  refine evF_wq t_ref13_named rfl rfl ?_ H
  have hn := fun H => rname_ev (fx := fx) H t (by unfold maxLen; omega)
  by_cases hA : k = 2 ∨ k = 3 ∨ k = 4 ∨ k = 5 ∨ k = 6 ∨ k = 7 ∨ k = 13 ∨ k = 21 ∨ k = 33 ∨ k = 34 ∨ k = 35 ∨ k = 36 ∨ k = 41 ∨ k = 51
  · have e0 : nmB k t = nameB t := by unfold nmB; rw [if_pos hA]
    rw [e0]
    rcases hA with rfl | rfl | rfl | rfl | rfl | rfl | rfl | rfl | rfl | rfl | rfl | rfl | rfl | rfl
    all_goals
      repeat' (first | refine run ⟨?_⟩ | refine ca (hn _) ?_ | fail)
      exact rfl
  have e1 : nmB k t = if k = 37 ∨ k = 54 then (cutT t).2.2 && nameB (cutT t).1 && nameB (cutT t).2.1 else if k = 38 then decide (t ∈ signsL) else decide (t = []) := by unfold nmB; exact if_neg hA
  rw [e1]
  clear e1
  simp only [not_or] at hA
  obtain ⟨a2, a3, a4, a5, a6, a7, a13, a21, a33, a34, a35, a36, a41, a51⟩ := hA
  by_cases hB : k = 37 ∨ k = 54
  · rw [if_pos hB]
    have hp := fun H => rpicked_ev (fx := fx) H t hx
    rcases hB with rfl | rfl
    all_goals
      repeat' (first | refine run ⟨?_⟩ | refine ca (hp _) ?_ | fail)
      exact rfl
  rw [if_neg hB]
  simp only [not_or] at hB
  obtain ⟨b1, b2⟩ := hB
  by_cases hC : k = 38
  · subst hC
    repeat' (first | refine run ⟨?_⟩ | refine ca (rsign_ev _ _) ?_ | fail)
    rw [if_pos rfl, ← sign_in]
    exact rfl
  rw [if_neg hC]
  refine run ⟨?_⟩
  exact rfl
end
end Go.Vm.Tre
