import Derived.Test.YtlcaoocfajkljaaDoorRvT
set_option linter.unusedSimpArgs false
set_option linter.unusedVariables false
namespace Go.Vm.Rv
set_option maxRecDepth 10000
section
variable {fx : Nat → Option Obj} (H : Hp)
def insL (op rd r1 r2 n : Int) : List D := [.int .i64 op, .int .i64 rd, .int .i64 r1, .int .i64 r2, .int .i64 n]
theorem eqL_ins (a rd r1 r2 n b rd' r1' r2' n' : Int) : eqL (insL a rd r1 r2 n) (insL b rd' r1' r2' n') = decide (a = b ∧ rd = rd' ∧ r1 = r1' ∧ r2 = r2' ∧ n = n') := by
  simp only [insL, eqL, eq1]
  rw [Bool.eq_iff_iff]
  simp
theorem apart_ev (a rd r1 r2 n b rd' r1' r2' n' : Int) (s1 : Small rd) (s2 : Small r1) (s3 : Small r2) (s4 : Small n) (t1 : Small rd') (t2 : Small r1') (t3 : Small r2') (t4 : Small n') :
    evF (pgR fx rowsC) 6 [.d (insD a rd r1 r2 n), .d (insD b rd' r1' r2' n')] H = some (.d (.bool true), H) := by
  have k1 : ∀ H, evF (pgR fx rowsC) 15 [.d (insD a rd r1 r2 n)] H = some (.d (.bool (rightL a rd r1 r2 n)), H) := fun H => right_ev H a rd r1 r2 n
  have k2 : ∀ H, evF (pgR fx rowsC) 15 [.d (insD b rd' r1' r2' n')] H = some (.d (.bool (rightL b rd' r1' r2' n')), H) := fun H => right_ev H b rd' r1' r2' n'
  refine evF_wp tbl6 rfl rfl ?_ H
  have fin : ∀ X : Prop, (decide (a = b ∧ rd = rd' ∧ r1 = r1' ∧ r2 = r2' ∧ n = n') = false → rightL a rd r1 r2 n = true → rightL b rd' r1' r2' n' = true → X) → (eqL (insL a rd r1 r2 n) (insL b rd' r1' r2' n') = false → rightL a rd r1 r2 n = true → rightL b rd' r1' r2' n' = true → X) := by
    intro X h e1 e2 e3
    rw [eqL_ins] at e1
    exact h e1 e2 e3
  have main : eqL (insL a rd r1 r2 n) (insL b rd' r1' r2' n') = false → rightL a rd r1 r2 n = true → rightL b rd' r1' r2' n' = true → ∃ v w s t, v ≠ w ∧ s ≠ t ∧ (∀ H, evF (pgR fx rowsC) 8 [.d (insD a rd r1 r2 n)] H = some (.tup [.d (.int .u32 v), .d (.int .i64 0)], H)) ∧ (∀ H, evF (pgR fx rowsC) 8 [.d (insD b rd' r1' r2' n')] H = some (.tup [.d (.int .u32 w), .d (.int .i64 0)], H)) ∧ (∀ H, evF (pgR fx rowsC) 16 [.d (insD a rd r1 r2 n)] H = some (.tup [.d (.str s), .d (.int .i64 0)], H)) ∧ (∀ H, evF (pgR fx rowsC) 16 [.d (insD b rd' r1' r2' n')] H = some (.tup [.d (.str t), .d (.int .i64 0)], H)) := by
    refine fin _ fun hne hr hr' => ?_
    have hne := of_decide_eq_false hne
    obtain ⟨h1, h2⟩ := right_in _ _ _ _ _ hr
    obtain ⟨h3, h4⟩ := right_in _ _ _ _ _ hr'
    refine ⟨wordL (rwC a) rd r1 r2 n, wordL (rwC b) rd' r1' r2' n', rtxtL a rd r1 r2 n, rtxtL b rd' r1' r2' n', fun e => ?_, fun e => ?_, fun H => ?_, fun H => ?_, fun H => ?_, fun H => ?_⟩
    · have e1 := dec_back a rd r1 r2 n hr
      have e2 := dec_back b rd' r1' r2' n' hr'
      rw [e, e2] at e1
      simp only [V.tup.injEq, List.cons.injEq, V.d.injEq, insD, D.agg.injEq, D.int.injEq, and_true, true_and] at e1
      exact hne ⟨e1.1.symm, e1.2.1.symm, e1.2.2.1.symm, e1.2.2.2.1.symm, e1.2.2.2.2.symm⟩
    · exact hne (rtxt_inj a b rd r1 r2 n rd' r1' r2' n' hr hr' e)
    · rw [enc_ev rowsOk, enc_eq, hr]; rfl
    · rw [enc_ev rowsOk, enc_eq, hr']; rfl
    · rw [text_ev rowsOk H a rd r1 r2 n s1 s2 s3 s4, chk_right, hr, txt_same a rd r1 r2 n h1 h2]; rfl
    · rw [text_ev rowsOk H b rd' r1' r2' n' t1 t2 t3 t4, chk_right, hr', txt_same b rd' r1' r2' n' h3 h4]; rfl
  cases he : eqL (insL a rd r1 r2 n) (insL b rd' r1' r2' n') with
  | true =>
    refine And.intro (fun h => ?_) (fun h => ?_)
    · exact absurd (he.symm.trans h) (by decide)
    · repeat' (first
        | (refine And.intro (fun h => ?_) (fun h => ?_) <;> try (exfalso; cases h; done))
        | refine Exists.intro _ (Exists.intro _ (And.intro (small_ev _) ?_)))
      all_goals rfl
  | false =>
    cases hr : rightL a rd r1 r2 n with
    | false =>
      rw [hr] at k1
      refine And.intro (fun h => ?_) (fun h => ?_)
      · repeat' (first
          | (refine And.intro (fun h => ?_) (fun h => ?_) <;> try (exfalso; cases h; done))
          | refine Exists.intro _ (Exists.intro _ (And.intro (k1 _) ?_))
          | refine Exists.intro _ (Exists.intro _ (And.intro (k2 _) ?_))
          | refine Exists.intro _ (Exists.intro _ (And.intro (small_ev _) ?_)))
        all_goals rfl
      · exact absurd (he.symm.trans h) (by decide)
    | true =>
      rw [hr] at k1
      cases hr' : rightL b rd' r1' r2' n' with
      | false =>
        rw [hr'] at k2
        refine And.intro (fun h => ?_) (fun h => ?_)
        · repeat' (first
            | (refine And.intro (fun h => ?_) (fun h => ?_) <;> try (exfalso; cases h; done))
            | refine Exists.intro _ (Exists.intro _ (And.intro (k1 _) ?_))
            | refine Exists.intro _ (Exists.intro _ (And.intro (k2 _) ?_))
            | refine Exists.intro _ (Exists.intro _ (And.intro (small_ev _) ?_)))
          all_goals rfl
        · exact absurd (he.symm.trans h) (by decide)
      | true =>
        rw [hr'] at k2
        obtain ⟨v, w, s, t, n1, n2, q1, q2, q3, q4⟩ := main he hr hr'
        have m1 : decide (v = w) = false := decide_eq_false n1
        have m2 : decide (s = t) = false := decide_eq_false n2
        refine And.intro (fun h => ?_) (fun h => ?_)
        · repeat' (first
            | (refine And.intro (fun h => ?_) (fun h => ?_) <;> try (exfalso; first | (cases h; done) | (simp only [m1, m2, decide_true, Bool.not_true, Bool.not_false, Bool.true_eq_false, Bool.false_eq_true, reduceCtorEq] at h; done)))
            | refine Exists.intro _ (Exists.intro _ (And.intro (k1 _) ?_))
            | refine Exists.intro _ (Exists.intro _ (And.intro (k2 _) ?_))
            | refine Exists.intro _ (Exists.intro _ (And.intro (q1 _) ?_))
            | refine Exists.intro _ (Exists.intro _ (And.intro (q2 _) ?_))
            | refine Exists.intro _ (Exists.intro _ (And.intro (q3 _) ?_))
            | refine Exists.intro _ (Exists.intro _ (And.intro (q4 _) ?_))
            | refine Exists.intro _ (Exists.intro _ (And.intro (small_ev _) ?_)))
          all_goals rfl
        · exact absurd (he.symm.trans h) (by decide)
end
end Go.Vm.Rv
