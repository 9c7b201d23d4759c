import Derived.Test.YtbaoljbcdjdnlaaGreatDoorTreMv
import Derived.Test.YtbaoljbcdjdnlaaGreatDoorTreP
import Derived.Test.YtbaoljbcdjdnlaaGreatDoorVmAid
import Derived.Test.YtbaoljbcdjdnlaaGreatDoorVmSt2
set_option linter.unusedSimpArgs false
set_option linter.unusedVariables false
namespace Go.Vm.Tre
open Go.Vm.Lex (isL isD isLD wordB wordsL hd0 speltB nameB)
set_option maxRecDepth 10000
def pgL (fx : Nat → Option Obj) : Pg := ⟨⟨fun _ => [], fx⟩, tbl⟩
theorem mv (fx : Nat → Option Obj) : MoveOk (pgL fx) := moveOk _
theorem idx0_of {s : List UInt8} (h : s ≠ []) {k : UInt8 → Prop} (hk : k (hd0 s)) : ∃ c, ((0 : Int) ≤ 0 ∧ s[(0 : Int).toNat]? = some c) ∧ k c := by
  cases s with
  | nil => exact absurd rfl h
  | cons c r => exact ⟨c, ⟨Int.le_refl _, rfl⟩, hk⟩
section
variable {fx : Nat → Option Obj} (H : Hp)
theorem letter_ev (c : UInt8) : evF (pgL fx) n_lex_letter [u8 c] H = some (boo (isL c), H) := by
  refine evF_wp t_lex_letter rfl rfl ?_ H
  repeat' refine And.intro (fun h => ?_) (fun h => ?_)
  all_goals show _ = _
  all_goals simp [oneOf, isL] at *
  all_goals grind
theorem digit_ev (c : UInt8) : evF (pgL fx) n_lex_digit [u8 c] H = some (boo (isD c), H) := by
  refine evF_wp t_lex_digit rfl rfl ?_ H
  repeat' refine And.intro (fun h => ?_) (fun h => ?_)
  all_goals show _ = _
  all_goals simp [oneOf, isD] at *
  all_goals omega
theorem word_ev (s : List UInt8) : evF (pgL fx) n_lex_Word [str s] H = some (boo (wordB s), H) := by
  refine evF_wp t_lex_Word rfl rfl ?_ H
  repeat' refine And.intro (fun h => ?_) (fun h => ?_)
  all_goals show _ = _
  all_goals simp only [decide_eq_true_eq, decide_eq_false_iff_not] at *
  all_goals simp [oneOf, wordB, wordsL, *]
set_option maxHeartbeats 1000000 in
theorem spelt_ev (s : List UInt8) (hs : s.length ≤ maxLen) : evF (pgL fx) n_lex_spelt [str s] H = some (boo (speltB s), H) := by
  have hm : s.length ≤ 9223372036854775807 := hs
  refine evF_wp t_lex_spelt rfl rfl ?_ H
  by_cases h0 : s = []
  · subst h0
    repeat' (refine And.intro (fun h => ?_) (fun h => ?_) <;> try (exfalso; simp at h; done))
    all_goals rfl
  by_cases h1 : s = [95]
  · subst h1
    repeat' (refine And.intro (fun h => ?_) (fun h => ?_) <;> try (exfalso; simp at h; done))
    all_goals rfl
  repeat' (first
      | (refine And.intro (fun h => ?_) (fun h => ?_) <;> try (exfalso; simp_all; done))
      | refine idx0_of (by assumption) ?_
      | refine Exists.intro _ (Exists.intro _ (And.intro (letter_ev _ _) ?_))
      | refine Exists.intro _ (Exists.intro _ (And.intro (digit_ev _ _) ?_)))
  all_goals first
    | (show _ = _; simp_all [oneOf, speltB]; done)
    | (show _ = _; obtain ⟨c, r, rfl⟩ := List.exists_cons_of_ne_nil h0; simp_all [oneOf, speltB, isLD, hd0]; done)
    | skip
  refine wp_loop (α := Nat) (fun i => s.length - i) (fun i => [(0, str s), (16, i64 s.length), (17, i64 i)]) (fun _ => []) (fun i => i ≤ s.length ∧ (s.take i).all isLD = true) ?_ 0 ⟨by omega, by simp⟩
  rintro i ⟨hi, hall⟩
  refine And.intro (fun hl => ?_) (fun hl => ?_)
  · replace hl := of_decide_eq_true hl
    have hlt : i < s.length := by omega
    repeat' (first
        | (refine And.intro (fun h => ?_) (fun h => ?_) <;> try (exfalso; simp_all; done))
        | refine idx_of hlt ?_
        | refine Exists.intro _ (Exists.intro _ (And.intro (letter_ev _ _) ?_))
        | refine Exists.intro _ (Exists.intro _ (And.intro (digit_ev _ _) ?_)))
    all_goals first
      | (show _ = _
         have : s.all isLD = false := by
           cases hb : s.all isLD with
           | false => rfl
           | true =>
             have := List.all_eq_true.1 hb s[i] (List.getElem_mem _)
             simp_all [isLD]
         simp [oneOf, speltB, this]; done)
      | (refine ⟨i + 1, ⟨by omega, all_upto hlt hall (by simp_all [isLD])⟩, by omega, ?_, rfl⟩
         rw [i64w (by omega)]; rfl)
  · replace hl := of_decide_eq_false hl
    have hi : i = s.length := by omega
    rw [hi, List.take_length] at hall
    show _ = _
    have hd : isD (hd0 s) = false := by
      first | assumption | (have hl : isL (hd0 s) = true := by simp_all
                            simp [isL, isD] at hl ⊢; omega)
    simp [oneOf, speltB, h0, h1, hall, hd]
theorem name_ev (s : List UInt8) (hs : s.length ≤ maxLen) : evF (pgL fx) n_lex_Name [str s] H = some (boo (nameB s), H) := by
  refine evF_wp t_lex_Name rfl rfl ?_ H
  repeat' (first
      | (refine And.intro (fun h => ?_) (fun h => ?_))
      | refine Exists.intro _ (Exists.intro _ (And.intro (spelt_ev _ _ hs) ?_))
      | refine Exists.intro _ (Exists.intro _ (And.intro (word_ev _ _) ?_)))
  all_goals show _ = _
  all_goals clear hs
  all_goals have e : ((s.length : Int) ≤ 64) = (s.length ≤ 64) := by simp only [eq_iff_iff]; omega
  all_goals simp only [e] at *
  all_goals clear e
  all_goals simp only [Bool.not_true, Bool.false_eq_true, decide_eq_true_eq, decide_eq_false_iff_not] at *
  all_goals simp [oneOf, nameB, *]
end
end Go.Vm.Tre
