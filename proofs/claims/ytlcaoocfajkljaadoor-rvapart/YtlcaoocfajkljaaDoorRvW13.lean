import Derived.Test.YtlcaoocfajkljaaDoorRvW12
import Derived.Test.YtlcaoocfajkljaaDoorRvW6
set_option linter.unusedSimpArgs false
set_option linter.unusedVariables false
namespace Go.Vm.Rv
set_option maxRecDepth 10000
section
variable {fx : Nat → Option Obj} (H : Hp)
theorem reads_same (op rd r1 r2 n : Int) : readsR (chkL rwC op rd r1 r2 n) op (rdP1 r1 r2) = readsR (rightL op rd r1 r2 n) op (rdP2 (hasA (formL op).f) (hasB (formL op).f) r1 r2) := by
  rw [chk_right]
  unfold readsR
  cases hr : rightL op rd r1 r2 n with
  | false => rfl
  | true =>
    have e : accD (rdP1 r1 r2) 31 = accD (rdP2 (hasA (formL op).f) (hasB (formL op).f) r1 r2) 31 := by
      unfold accD
      rw [acc_ext 31 (q := rdP2 (hasA (formL op).f) (hasB (formL op).f) r1 r2)]
      intro r h1 h2
      unfold rightL at hr
      simp only [Bool.and_eq_true] at hr
      obtain ⟨⟨⟨⟨_, hd⟩, ha⟩, hb⟩, hn⟩ := hr
      unfold rdP1 rdP2
      generalize hasA (formL op).f = A at *
      generalize hasB (formL op).f = B at *
      have e1 : decide (r = r1) = (A && decide (r1 = r)) := by
        cases A with
        | true => rw [Bool.true_and, decide_eq_decide]; omega
        | false =>
          have : r1 = 0 := by simpa [rregL] using ha
          rw [Bool.false_and, decide_eq_false_iff_not]; omega
      have e2 : decide (r = r2) = (B && decide (r2 = r)) := by
        cases B with
        | true => rw [Bool.true_and, decide_eq_decide]; omega
        | false =>
          have : r2 = 0 := by simpa [rregL] using hb
          rw [Bool.false_and, decide_eq_false_iff_not]; omega
      rw [e1, e2]
    rw [e]
theorem reads_form (ok : Bool) (op : Int) (p : Int → Bool) : ∃ (xs : List Int) (e : Int), readsR ok op p = .tup [.d (.sl (xs.map (D.int .i64))), .d (.int .i64 e)] ∧ xs.length ≤ 1000 := by
  unfold readsR
  split
  · split
    · exact ⟨[10, 17], 0, rfl, by decide⟩
    · exact ⟨acc p 31, 0, rfl, by have := acc_len p 31; omega⟩
  · exact ⟨[], 11, rfl, by decide⟩
theorem writes_form (ok : Bool) (op rd : Int) : ∃ (a e : Int), writesR ok op rd = .tup [.d (.int .i64 a), .d (.int .i64 e)] := by
  unfold writesR
  split
  · split
    · exact ⟨_, _, rfl⟩
    · exact ⟨_, _, rfl⟩
  · exact ⟨_, _, rfl⟩
set_option maxHeartbeats 2000000 in
theorem texts_ev (op rd r1 r2 n o2 : Int) (s1 : Small rd) (s2 : Small r1) (s3 : Small r2) (s4 : Small n) : evF (pgR fx rowsC) 7 [.d (insD op rd r1 r2 n), .d (.int .i64 o2)] H = some (.d (.bool true), H) := by
  have kt : ∃ (s : List UInt8) (e : Int), (∀ H, evF (pgR fx rowsC) 16 [.d (insD op rd r1 r2 n)] H = some (.tup [.d (.str s), .d (.int .i64 e)], H)) ∧ (∀ H, evF (pgR fx rowsC) 17 [.d (insD op rd r1 r2 n)] H = some (.tup [.d (.str s), .d (.int .i64 e)], H)) := by
    cases hr : rightL op rd r1 r2 n with
    | true =>
      obtain ⟨h1, h2⟩ := right_in _ _ _ _ _ hr
      refine ⟨rtxtL op rd r1 r2 n, 0, fun H => ?_, fun H => ?_⟩
      · rw [text_ev rowsOk H op rd r1 r2 n s1 s2 s3 s4, chk_right, hr, txt_same op rd r1 r2 n h1 h2]; rfl
      · rw [rtext_ev H op rd r1 r2 n s1 s2 s3 s4, hr]; rfl
    | false =>
      refine ⟨[], 11, fun H => ?_, fun H => ?_⟩
      · rw [text_ev rowsOk H op rd r1 r2 n s1 s2 s3 s4, chk_right, hr]; rfl
      · rw [rtext_ev H op rd r1 r2 n s1 s2 s3 s4, hr]; rfl
  obtain ⟨s, e, k1, k2⟩ := kt
  obtain ⟨xs, e2, hx, hl⟩ := reads_form (rightL op rd r1 r2 n) op (rdP2 (hasA (formL op).f) (hasB (formL op).f) r1 r2)
  obtain ⟨a, e3, hw⟩ := writes_form (rightL op rd r1 r2 n) op rd
  have k3 : ∀ H, evF (pgR fx rowsC) 18 [.d (insD op rd r1 r2 n)] H = some (.tup [.d (.sl (xs.map (D.int .i64))), .d (.int .i64 e2)], H) := fun H => by rw [reads_ev rowsOk, reads_same, hx]
  have k4 : ∀ H, evF (pgR fx rowsC) 19 [.d (insD op rd r1 r2 n)] H = some (.tup [.d (.sl (xs.map (D.int .i64))), .d (.int .i64 e2)], H) := fun H => by rw [rreads_ev, hx]
  have k5 : ∀ H, evF (pgR fx rowsC) 20 [.d (insD op rd r1 r2 n)] H = some (.tup [.d (.int .i64 a), .d (.int .i64 e3)], H) := fun H => by rw [writes_ev rowsOk, chk_right, hw]
  have k6 : ∀ H, evF (pgR fx rowsC) 21 [.d (insD op rd r1 r2 n)] H = some (.tup [.d (.int .i64 a), .d (.int .i64 e3)], H) := fun H => by rw [rwrites_ev, hw]
  refine evF_wp tbl7 rfl rfl ?_ H
  repeat' (first
    | (refine And.intro (fun h => ?_) (fun h => ?_) <;> try (exfalso; simp only [decide_true, Bool.not_true, Bool.not_false, Bool.true_eq_false, Bool.false_eq_true, reduceCtorEq] at h; done))
    | refine And.intro (grew_self _) ?_
    | refine Exists.intro _ (Exists.intro _ (And.intro (k1 _) ?_))
    | refine Exists.intro _ (Exists.intro _ (And.intro (k2 _) ?_))
    | refine Exists.intro _ (Exists.intro _ (And.intro (k3 _) ?_))
    | refine Exists.intro _ (Exists.intro _ (And.intro (k4 _) ?_))
    | refine Exists.intro _ (Exists.intro _ (And.intro (k5 _) ?_))
    | refine Exists.intro _ (Exists.intro _ (And.intro (k6 _) ?_))
    | refine Exists.intro _ (Exists.intro _ (And.intro (ints_ev _ xs hl) ?_))
    | refine Exists.intro _ (Exists.intro _ (And.intro (name_ev _ _) ?_))
    | refine Exists.intro _ (Exists.intro _ (And.intro (rname_ev _ _) ?_))
    | refine Exists.intro _ (Exists.intro _ (And.intro (small_ev _) ?_)))
  all_goals show _ = _
  all_goals first | rfl | (simp [oneOf]; done)
end
end Go.Vm.Rv
