import Derived.Test.YtlcaoocfajkljaaDoorRvP6
import Derived.KernelRfl
namespace Go.Vm.Rv
set_option maxRecDepth 10000
section
variable {fx : Nat → Option Obj} (H : Hp)
def gwD (op w : Int) : D := insD op (gd op w) (ga op w) (gb op w) (gn op w)
def rdP (w op : Int) : Bool := rightL op (gd op w) (ga op w) (gb op w) (gn op w) && decide (rwordL (formL op) (gd op w) (ga op w) (gb op w) (gn op w) = w)
theorem rdec_ev (w : Int) : evF (pgR fx rowsC) 14 [.d (.int .u32 w)] H = some (decR (rdP w) (fun op => guessD op w) 65, H) := by
  refine evF_wp tbl14 rfl rfl ?_ H
  refine wp_loop (α := Int) (fun op => (66 - op).toNat) (fun op => [(0, .d (.int .u32 w)), (2, .ptr 0 0), (4, .d (.int .i64 op))]) (fun _ => [.box [.d (.int .i64 0), .d (.int .i64 0), .d (.int .i64 0), .d (.int .i64 0), .d (.int .i64 0)]])
    (fun op => 1 ≤ op ∧ op ≤ 66 ∧ decR (rdP w) (fun op => guessD op w) (66 - op).toNat = decR (rdP w) (fun op => guessD op w) 65) ?_ 1 ⟨by omega, by omega, rfl⟩
  intro op ⟨h1, h2, h3⟩
  refine And.intro (fun h => ?_) (fun h => ?_)
  · replace h := of_decide_eq_true h
    refine Exists.intro _ (Exists.intro _ (And.intro (guess_ev _ _ _) ?_))
    refine Exists.intro _ (Exists.intro _ (And.intro (right_ev _ op (gd op w) (ga op w) (gb op w) (gn op w)) ?_))
    have hn : (66 - op).toNat = (65 - op).toNat + 1 := by omega
    have ho : 65 - ((65 - op).toNat : Int) = op := by omega
    rw [hn, decR, ho] at h3
    have next : rdP w op = false → ∃ a', (1 ≤ a' ∧ a' ≤ 66 ∧ decR (rdP w) (fun op => guessD op w) (66 - a').toNat = decR (rdP w) (fun op => guessD op w) 65) ∧ (66 - a').toNat < (66 - op).toNat ∧ ([(0, .d (.int .u32 w)), (2, .ptr 0 0), (4, .d (.int .i64 (IntKind.i64.wrap (op + 1))))] : Env) = [(0, .d (.int .u32 w)), (2, .ptr 0 0), (4, .d (.int .i64 a'))] ∧ ([.box [.d (.int .i64 0), .d (.int .i64 0), .d (.int .i64 0), .d (.int .i64 0), .d (.int .i64 0)]] : Hp) = [.box [.d (.int .i64 0), .d (.int .i64 0), .d (.int .i64 0), .d (.int .i64 0), .d (.int .i64 0)]] := by
      intro hf
      rw [hf] at h3
      refine ⟨op + 1, ⟨by omega, by omega, ?_⟩, by omega, ?_, rfl⟩
      · rw [show (66 - (op + 1)).toNat = (65 - op).toNat by omega]; simpa using h3
      · rw [i64w (by omega)]
    refine And.intro (fun hr => ?_) (fun hr => ?_)
    · refine Exists.intro _ (Exists.intro _ (And.intro (rword_ev _ op (gd op w) (ga op w) (gb op w) (gn op w)) ?_))
      refine And.intro (fun hw => ?_) (fun hw => ?_)
      · have hp : rdP w op = true := by simp only [rdP, hr, Bool.true_and]; exact hw
        rw [hp, if_pos rfl] at h3
        show _ = _
        rw [← h3]; rfl
      · exact next (by simp only [rdP, hr, Bool.true_and]; exact hw)
    · refine And.intro (fun hw => ?_) (fun hw => ?_)
      · cases hw
      · exact next (by rw [rdP, hr]; rfl)
  · replace h := of_decide_eq_false h
    have : op = 66 := by omega
    subst this
    show _ = _
    rw [← h3]; rfl
/-- Both read the same, as calls. -/
def decV (w : Int) : V := decR (fun op => fitsL (rwC op) w) (fun op => opD (rwC op) op w) 65
theorem dec_ev' (w : Int) : evF (pgR fx rowsC) 13 [.d (.int .u32 w)] H = some (decV w, H) := dec_ev rowsOk H w
theorem rdec_ev' (w : Int) (hw : 0 ≤ w ∧ w < 4294967296) : evF (pgR fx rowsC) 14 [.d (.int .u32 w)] H = some (decV w, H) := by
  rw [rdec_ev, decV, dec_same w hw]; rfl
theorem small_ev : evF (pgR fx rowsC) 12 [] H = some (.d (.bool true), H) := by
  have e1 : encL rwC 22 1 2 0 (-3) = (4291887251, 0) := by decide +kernel
  have e2 : decV 4291887251 = .tup [.d (insD 22 1 2 0 (-3)), .d (.int .i64 0)] := by kernel_rfl
  have e3 : decV 0 = .tup [.d zeroD, .d (.int .i64 10)] := by kernel_rfl
  refine evF_wp tbl12 rfl rfl ?_ H
  refine Exists.intro _ (Exists.intro _ (And.intro ((enc_ev rowsOk _ 22 1 2 0 (-3)).trans (by rw [e1])) ?_))
  refine Exists.intro _ (Exists.intro _ (And.intro ((dec_ev' _ 4291887251).trans (by rw [e2])) ?_))
  refine Exists.intro _ (Exists.intro _ (And.intro ((dec_ev' _ 0).trans (by rw [e3])) ?_))
  repeat' (refine And.intro (fun h => ?_) (fun h => ?_))
  all_goals first | (cases h; done) | skip
  all_goals show _ = _
  all_goals first | rfl | (exfalso; clear e1 e2 e3; simp at *; done)
theorem encodes_ev (op rd r1 r2 n : Int) : evF (pgR fx rowsC) 3 [.d (insD op rd r1 r2 n)] H = some (.d (.bool true), H) := by
  have key : ∃ a e, (∀ H, evF (pgR fx rowsC) 8 [.d (insD op rd r1 r2 n)] H = some (.tup [.d (.int .u32 a), .d (.int .i64 e)], H)) ∧ (∀ H, evF (pgR fx rowsC) 9 [.d (insD op rd r1 r2 n)] H = some (.tup [.d (.int .u32 a), .d (.int .i64 e)], H)) ∧ (∀ H, evF (pgR fx rowsC) 10 [.d (insD op rd r1 r2 n)] H = some (.d (.int .i64 e), H)) ∧ (∀ H, evF (pgR fx rowsC) 11 [.d (insD op rd r1 r2 n)] H = some (.d (.int .i64 e), H)) := by
    cases hr : rightL op rd r1 r2 n with
    | true =>
      refine ⟨rwordL (formL op) rd r1 r2 n, 0, fun H => ?_, fun H => ?_, fun H => ?_, fun H => ?_⟩
      · rw [enc_ev rowsOk, encL, chk_right, hr, word_same _ _ _ _ _ hr]; rfl
      · rw [renc_ev, hr]; rfl
      · rw [chk_ev rowsOk, chk_right, hr]; rfl
      · rw [rchk_ev, hr]; rfl
    | false =>
      refine ⟨0, 11, fun H => ?_, fun H => ?_, fun H => ?_, fun H => ?_⟩
      · rw [enc_ev rowsOk, encL, chk_right, hr]; rfl
      · rw [renc_ev, hr]; rfl
      · rw [chk_ev rowsOk, chk_right, hr]; rfl
      · rw [rchk_ev, hr]; rfl
  obtain ⟨a, e, k1, k2, k3, k4⟩ := key
  refine evF_wp tbl3 rfl rfl ?_ H
  repeat' (first
    | refine And.intro (fun h => ?_) (fun h => ?_)
    | refine And.intro (grew_self _) ?_
    | refine Exists.intro _ (Exists.intro _ (And.intro (k1 _) ?_))
    | refine Exists.intro _ (Exists.intro _ (And.intro (k2 _) ?_))
    | refine Exists.intro _ (Exists.intro _ (And.intro (k3 _) ?_))
    | refine Exists.intro _ (Exists.intro _ (And.intro (k4 _) ?_))
    | refine Exists.intro _ (Exists.intro _ (And.intro (small_ev _) ?_)))
  all_goals show _ = _
  all_goals first | rfl | (exfalso; clear k1 k2 k3 k4; simp at *; done) | (clear k1 k2 k3 k4; simp [oneOf]; done)
theorem decodes_ev (w : Int) (hw : 0 ≤ w ∧ w < 4294967296) : evF (pgR fx rowsC) 4 [.d (.int .u32 w)] H = some (.d (.bool true), H) := by
  have hd : ∃ a b c d e f, decV w = .tup [.d (insD a b c d e), .d (.int .i64 f)] := by
    rcases decR_cases (fun op => fitsL (rwC op) w) (fun op => opD (rwC op) op w) 65 (Nat.le_refl _) with h | ⟨op, _, _, _, h⟩
    · exact ⟨_, _, _, _, _, _, h⟩
    · exact ⟨_, _, _, _, _, _, h⟩
  obtain ⟨a, b, c, d, e, f, hd⟩ := hd
  refine evF_wp tbl4 rfl rfl ?_ H
  refine Exists.intro _ (Exists.intro _ (And.intro ((dec_ev' _ w).trans (by rw [hd])) ?_))
  refine Exists.intro _ (Exists.intro _ (And.intro ((rdec_ev' _ w hw).trans (by rw [hd])) ?_))
  repeat' (first
    | refine And.intro (fun h => ?_) (fun h => ?_)
    | refine And.intro (grew_self _) ?_
    | refine Exists.intro _ (Exists.intro _ (And.intro (small_ev _) ?_)))
  all_goals show _ = _
  all_goals first | rfl | (exfalso; clear hd; simp [eqL, eq1] at *; done) | (clear hd; simp [oneOf, eqL, eq1]; done)
end
end Go.Vm.Rv
