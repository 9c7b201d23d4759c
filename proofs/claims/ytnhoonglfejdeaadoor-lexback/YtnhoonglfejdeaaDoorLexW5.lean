import Derived.Test.YtnhoonglfejdeaaDoorLexW4
namespace Go.Vm.Lex
set_option maxRecDepth 10000
def tkD (k : Int) (t : List UInt8) (v f e : Int) : D := .agg [.int .i64 k, .str t, .int .i64 v, .int .i64 f, .int .i64 e]
def dgD (c f e : Int) : D := .agg [.int .i64 c, .int .i64 f, .int .i64 e]
def wD (s : List UInt8) : Nat := (decGo ⟨s.toArray⟩).2
def numR (s : List UInt8) : V := .tup [.d (tkD (if numB s then 3 else 0) (if numB s then s else []) (if numB s then valD s else 0) 0 0), i64 (if numB s then 0 else 112)]
def tokR (s : List UInt8) : V := .tup [.d (tkD (tokL wD s).k (tokL wD s).t (tokL wD s).v 0 0), i64 (tokL wD s).n, i64 (tokL wD s).e]
section
variable {fx : Nat → Option Obj} (H : Hp)
theorem number_ev (s : List UInt8) (hs : s.length ≤ 281474976710656) (h0 : s ≠ []) : evF (pgL fx) n_lex_number [str s] H = some (numR s, H) := by
  have key := parse_num (M := 18446744073709551615) (by omega) s 0
  have hp : Lib.parseUintB 64 s = Lib.parseUintM 18446744073709551615 0 s := by unfold Lib.parseUintB; rw [if_neg h0]
  have hpr : ∀ H : Hp, evF (pgL fx) n_primParse [str s, i64 10, i64 64] H = (match Lib.parseUintB 64 s with
        | .ok u => some (.tup [.d (.int .u64 u), .ifc true], H)
        | .range => some (.tup [.d (.int .u64 18446744073709551615), .ifc false], H)
        | _ => some (.tup [.d (.int .u64 0), .ifc false], H)) := by
    intro H
    rw [evF_prim t_primParse]
    exact if_pos ⟨⟨rfl, rfl⟩, hs⟩
  rw [hp] at hpr
  refine evF_wp t_lex_number rfl rfl ?_ H
  cases hr : Lib.parseUintM 18446744073709551615 0 s with
  | ok u =>
    rw [hr] at hpr key
    obtain ⟨k1, k2⟩ := key
    refine Exists.intro _ (Exists.intro _ (And.intro (hpr _) ?_))
    by_cases hu : u ≤ 9223372036854775807
    · have hn : numB s = true := by simp [numB, k1]; show valA 0 s ≤ _; omega
      repeat' (refine And.intro (fun h => ?_) (fun h => ?_) <;> try (exfalso; simp at h; done))
      all_goals first
        | (exfalso; have h1 := of_decide_eq_true h; omega)
        | (show _ = _
           simp only [oneOf, numR, hn, if_true, tkD]
           rw [i64w (by omega), k2]; rfl)
    · have hn : numB s = false := by simp [numB, k1]; show _ < valA 0 s; omega
      repeat' (refine And.intro (fun h => ?_) (fun h => ?_) <;> try (exfalso; simp at h; done))
      all_goals first
        | (exfalso; have h1 := of_decide_eq_false h; omega)
        | (show _ = _
           simp only [oneOf, numR, hn, tkD]; rfl)
  | _ =>
    rw [hr] at hpr key
    refine Exists.intro _ (Exists.intro _ (And.intro (hpr _) ?_))
    have hn : numB s = false := by
      cases hb : numB s with
      | false => rfl
      | true => simp [numB] at hb; exact absurd ⟨List.all_eq_true.2 hb.1, hb.2⟩ key
    repeat' (refine And.intro (fun h => ?_) (fun h => ?_) <;> try (exfalso; simp at h; done))
    all_goals
      show _ = _
      simp only [oneOf, numR, hn, tkD]; try rfl
theorem dec_ev (s : List UInt8) : evF (pgL fx) n_primDecode [str s] H = some (.tup [.d (.int .i32 (decGo ⟨s.toArray⟩).1), i64 (wD s)], H) := by
  rw [evF_prim t_primDecode]; try rfl
theorem run_pos {s : List UInt8} (h : ((runL s : Nat) : Int) > 0) : s ≠ [] := by rintro rfl; simp [runL] at h
theorem token_ev (s : List UInt8) (hs : s.length ≤ 281474976710656) : evF (pgL fx) n_lex_token [str s] H = some (tokR s, H) := by
  have hm : s.length ≤ maxLen := by unfold maxLen; omega
  have hrl := runL_le s
  have e1 : List.drop 0 (List.take (Int.toNat ((runL s : Nat) : Int)) s) = s.take (runL s) := by simp
  refine evF_wp t_lex_token rfl rfl ?_ H
  refine Exists.intro _ (Exists.intro _ (And.intro (run_ev _ _ hm) ?_))
  by_cases hr : 0 < runL s
  · have hne : s ≠ [] := by rintro rfl; simp [runL] at hr
    refine And.intro (fun h => ?_) (fun h => ?_)
    · refine idx0_of hne ?_
      refine Exists.intro _ (Exists.intro _ (And.intro (digit_ev _ _) ?_))
      refine And.intro (fun hd => ?_) (fun hd => ?_)
      · refine And.intro (by omega) ?_
        refine And.intro ⟨by omega, by omega⟩ ?_
        have htn : s.take (runL s) ≠ [] := by
          intro e; rw [List.take_eq_nil_iff] at e; rcases e with e | e; omega; exact hne e
        refine Exists.intro _ (Exists.intro _ (And.intro (number_ev _ _ (by rw [e1, List.length_take]; omega) (by rw [e1]; exact htn)) ?_))
        show _ = _
        rw [e1]
        simp only [oneOf, tokR, tokL, if_pos (And.intro hr hd), tkD]
        cases numB (s.take (runL s)) <;> rfl
      · have hd' : ¬ (0 < runL s ∧ isD (hd0 s) = true) := by rw [hd]; simp
        refine And.intro (fun h3 => ?_) (fun h3 => ?_)
        · refine And.intro (by omega) ?_
          refine And.intro ⟨by omega, by omega⟩ ?_
          refine And.intro (fun h4 => ?_) (fun h4 => ?_)
          · rw [e1] at h4
            simp only [Bool.not_eq_true', decide_eq_false_iff_not] at h4
            refine And.intro (by omega) ?_
            refine And.intro ⟨by omega, by omega⟩ ?_
            refine Exists.intro _ (Exists.intro _ (And.intro (word_ev _ _) ?_))
            rw [e1]
            refine And.intro (fun h5 => ?_) (fun h5 => ?_)
            all_goals
              refine And.intro (fun h6 => ?_) (fun h6 => ?_)
              · replace h6 := of_decide_eq_true h6
                show _ = _
                simp only [oneOf, tokR, tokL, if_neg hd', if_pos (And.intro hr h4), if_pos (show 64 < runL s by omega), tkD]; try rfl
              · replace h6 := of_decide_eq_false h6
                refine And.intro (by omega) ?_
                refine And.intro ⟨by omega, by omega⟩ ?_
                show _ = _
                rw [e1]
                simp only [oneOf, tokR, tokL, if_neg hd', if_pos (And.intro hr h4), if_neg (show ¬ 64 < runL s by omega), h5, tkD]; try rfl
          · rw [e1] at h4
            simp only [Bool.not_eq_false', decide_eq_true_eq] at h4
            have h4' : ¬ (0 < runL s ∧ s.take (runL s) ≠ [95]) := fun e => e.2 h4
            refine Exists.intro _ (Exists.intro _ (And.intro (sign_ev _ _) ?_))
            refine And.intro (fun h7 => ?_) (fun h7 => ?_)
            · simp only [Bool.not_eq_true', decide_eq_false_iff_not] at h7
              show _ = _
              simp only [oneOf, tokR, tokL, if_neg hd', if_neg h4', if_pos h7, tkD]; try rfl
            · simp only [Bool.not_eq_false', decide_eq_true_eq] at h7
              refine Exists.intro _ (Exists.intro _ (And.intro (dec_ev _ _) ?_))
              show _ = _
              simp only [oneOf, tokR, tokL, if_neg hd', if_neg h4', h7, tkD, ne_eq, not_true, if_false]; try rfl
        · exfalso; simp at h3; omega
    · exfalso; simp at h; omega
  · have hd' : ¬ (0 < runL s ∧ isD (hd0 s) = true) := fun e => hr e.1
    have h4' : ¬ (0 < runL s ∧ s.take (runL s) ≠ [95]) := fun e => hr e.1
    repeat' (first | (refine And.intro (fun h => ?_) (fun h => ?_) <;> first | (exfalso; simp at h; done) | (exfalso; simp at h; omega) | skip))
    refine Exists.intro _ (Exists.intro _ (And.intro (sign_ev _ _) ?_))
    refine And.intro (fun h7 => ?_) (fun h7 => ?_)
    · simp only [Bool.not_eq_true', decide_eq_false_iff_not] at h7
      show _ = _
      simp only [oneOf, tokR, tokL, if_neg hd', if_neg h4', if_pos h7, tkD]; try rfl
    · simp only [Bool.not_eq_false', decide_eq_true_eq] at h7
      refine Exists.intro _ (Exists.intro _ (And.intro (dec_ev _ _) ?_))
      show _ = _
      simp only [oneOf, tokR, tokL, if_neg hd', if_neg h4', h7, tkD, ne_eq, not_true, if_false]; try rfl
theorem diag_ev (c f e : Int) : evF (pgL fx) n_ref11_diag [i64 c, i64 f, i64 e] H = some (.d (dgD c f e), H) := by
  refine evF_wp t_ref11_diag rfl rfl ?_ H
  rfl
end
end Go.Vm.Lex
