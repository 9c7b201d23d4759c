import Derived.Test.YtlcaoocfajkljaaDoorRvW6
import Derived.Test.YtlcaoocfajkljaaDoorRvP7
set_option linter.unusedSimpArgs false
set_option linter.unusedVariables false
namespace Go.Vm.Rv
set_option maxRecDepth 10000
section
variable {fx : Nat → Option Obj} (H : Hp)
theorem guessD_eq (op w : Int) : guessD op w = insD op (gd op w) (ga op w) (gb op w) (gn op w) := rfl
/-- Encode, as a call. -/
theorem enc_eq (op rd r1 r2 n : Int) : encL rwC op rd r1 r2 n = if rightL op rd r1 r2 n then (wordL (rwC op) rd r1 r2 n, 0) else (0, 11) := by
  unfold encL; rw [chk_right]
/-- A right instruction's word is read as it was. -/
theorem dec_back (op rd r1 r2 n : Int) (h : rightL op rd r1 r2 n = true) : decV (wordL (rwC op) rd r1 r2 n) = .tup [.d (insD op rd r1 r2 n), .d (.int .i64 0)] := by
  obtain ⟨h1, h2⟩ := right_in _ _ _ _ _ h
  obtain ⟨hw, b1, b2, b3, b4⟩ := back op rd r1 r2 n h _ rfl
  generalize hwe : wordL (rwC op) rd r1 r2 n = w at *
  have hf : fitsL (rwC op) w = true := by
    rw [fits_word op w h1 h2 hw, b1, b2, b3, b4, hwe]; simp
  unfold decV
  rw [decR_at (p := fun op => fitsL (rwC op) w) (f := fun op => opD (rwC op) op w) (op := op) hf (fun o o1 o2 => ?_) 65 (Nat.le_refl _) h2 (by omega), opD_guess op w h1 h2 hw hf, guessD_eq, b1, b2, b3, b4]
  cases hb : fitsL (rwC o) w with
  | false => rfl
  | true => exact absurd (uniq o op w o1 (by omega) h1 h2 hw hb hf) (by omega)
/-- What is read is an instruction of that word. -/
theorem dec_two (w : Int) (hw : 0 ≤ w ∧ w < 4294967296) : decV w = .tup [.d zeroD, .d (.int .i64 10)] ∨ ∃ op rd r1 r2 n, decV w = .tup [.d (insD op rd r1 r2 n), .d (.int .i64 0)] ∧ encL rwC op rd r1 r2 n = (w, 0) := by
  rcases decR_cases (fun op => fitsL (rwC op) w) (fun op => opD (rwC op) op w) 65 (Nat.le_refl _) with h | ⟨op, h1, h2, h3, h⟩
  · exact .inl h
  · right
    have h3 : fitsL (rwC op) w = true := h3
    refine ⟨op, gd op w, ga op w, gb op w, gn op w, ?_, ?_⟩
    · unfold decV; rw [h, opD_guess op w h1 h2 hw h3]; rfl
    · rw [enc_eq, guess_right op w h1 h2 hw, if_pos rfl]
      rw [fits_word op w h1 h2 hw, decide_eq_true_eq] at h3
      rw [h3]
theorem back_ev (op rd r1 r2 n w : Int) (hw : 0 ≤ w ∧ w < 4294967296) : evF (pgR fx rowsC) 5 [.d (insD op rd r1 r2 n), .d (.int .u32 w)] H = some (.d (.bool true), H) := by
  have k2 : (∀ H, evF (pgR fx rowsC) 13 [.d (.int .u32 w)] H = some (.tup [.d zeroD, .d (.int .i64 10)], H)) ∨ ∃ p a b c m, (∀ H, evF (pgR fx rowsC) 13 [.d (.int .u32 w)] H = some (.tup [.d (insD p a b c m), .d (.int .i64 0)], H)) ∧ (∀ H, evF (pgR fx rowsC) 8 [.d (insD p a b c m)] H = some (.tup [.d (.int .u32 w), .d (.int .i64 0)], H)) := by
    rcases dec_two w hw with h | ⟨p, a, b, c, m, h, he⟩
    · exact .inl fun H => (dec_ev' H w).trans (by rw [h])
    · exact .inr ⟨p, a, b, c, m, fun H => (dec_ev' H w).trans (by rw [h]), fun H => (enc_ev rowsOk H p a b c m).trans (by rw [he])⟩
  have k3 : ∀ H, evF (pgR fx rowsC) 15 [.d (insD op rd r1 r2 n)] H = some (.d (.bool (rightL op rd r1 r2 n)), H) := fun H => right_ev H op rd r1 r2 n
  refine evF_wp tbl5 rfl rfl ?_ H
  cases hr : rightL op rd r1 r2 n with
  | true =>
    rw [hr] at k3
    have k1 : ∀ H, evF (pgR fx rowsC) 8 [.d (insD op rd r1 r2 n)] H = some (.tup [.d (.int .u32 (wordL (rwC op) rd r1 r2 n)), .d (.int .i64 0)], H) := fun H => (enc_ev rowsOk H op rd r1 r2 n).trans (by rw [enc_eq, hr]; rfl)
    have k4 : ∀ H, evF (pgR fx rowsC) 13 [.d (.int .u32 (wordL (rwC op) rd r1 r2 n))] H = some (.tup [.d (insD op rd r1 r2 n), .d (.int .i64 0)], H) := fun H => (dec_ev' H _).trans (by rw [dec_back _ _ _ _ _ hr])
    refine Exists.intro _ (Exists.intro _ (And.intro (k1 _) ?_))
    refine Exists.intro _ (Exists.intro _ (And.intro (k3 _) ?_))
    refine Exists.intro _ (Exists.intro _ (And.intro rfl ?_))
    rcases k2 with k2 | ⟨p, a, b, c, m, k2, k5⟩
    · repeat' (first
        | (refine And.intro (fun h => ?_) (fun h => ?_) <;> try (exfalso; simp [eqL, eq1] at h; done))
        | refine And.intro (grew_self _) ?_
        | refine Exists.intro _ (Exists.intro _ (And.intro (k4 _) ?_))
        | refine Exists.intro _ (Exists.intro _ (And.intro (k2 _) ?_))
        | refine Exists.intro _ (Exists.intro _ (And.intro (small_ev _) ?_)))
      all_goals show _ = _
      all_goals first | rfl | (exfalso; clear k1 k2 k3 k4; simp [eqL, eq1] at *; done)
    · repeat' (first
        | (refine And.intro (fun h => ?_) (fun h => ?_) <;> try (exfalso; simp [eqL, eq1] at h; done))
        | refine And.intro (grew_self _) ?_
        | refine Exists.intro _ (Exists.intro _ (And.intro (k4 _) ?_))
        | refine Exists.intro _ (Exists.intro _ (And.intro (k2 _) ?_))
        | refine Exists.intro _ (Exists.intro _ (And.intro (k5 _) ?_))
        | refine Exists.intro _ (Exists.intro _ (And.intro (small_ev _) ?_)))
      all_goals show _ = _
      all_goals first | rfl | (exfalso; clear k1 k2 k3 k4 k5; simp [eqL, eq1] at *; done)
  | false =>
    rw [hr] at k3
    have k1 : ∀ H, evF (pgR fx rowsC) 8 [.d (insD op rd r1 r2 n)] H = some (.tup [.d (.int .u32 0), .d (.int .i64 11)], H) := fun H => (enc_ev rowsOk H op rd r1 r2 n).trans (by rw [enc_eq, hr]; rfl)
    refine Exists.intro _ (Exists.intro _ (And.intro (k1 _) ?_))
    refine Exists.intro _ (Exists.intro _ (And.intro (k3 _) ?_))
    refine Exists.intro _ (Exists.intro _ (And.intro rfl ?_))
    rcases k2 with k2 | ⟨p, a, b, c, m, k2, k5⟩
    · repeat' (first
        | (refine And.intro (fun h => ?_) (fun h => ?_) <;> try (exfalso; simp [eqL, eq1] at h; done))
        | (exfalso; cases h; done)
        | refine And.intro (grew_self _) ?_
        | refine Exists.intro _ (Exists.intro _ (And.intro (k2 _) ?_))
        | refine Exists.intro _ (Exists.intro _ (And.intro (small_ev _) ?_)))
      all_goals show _ = _
      all_goals first | rfl | (exfalso; clear k1 k2 k3; simp [eqL, eq1] at *; done)
    · repeat' (first
        | (refine And.intro (fun h => ?_) (fun h => ?_) <;> try (exfalso; simp [eqL, eq1] at h; done))
        | (exfalso; cases h; done)
        | refine And.intro (grew_self _) ?_
        | refine Exists.intro _ (Exists.intro _ (And.intro (k2 _) ?_))
        | refine Exists.intro _ (Exists.intro _ (And.intro (k5 _) ?_))
        | refine Exists.intro _ (Exists.intro _ (And.intro (small_ev _) ?_)))
      all_goals show _ = _
      all_goals first | rfl | (exfalso; clear k1 k2 k3 k5; simp [eqL, eq1] at *; done)
end
end Go.Vm.Rv
