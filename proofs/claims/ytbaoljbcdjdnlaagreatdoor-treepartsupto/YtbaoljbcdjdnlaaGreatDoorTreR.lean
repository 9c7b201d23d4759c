import Derived.Test.YtbaoljbcdjdnlaaGreatDoorTreW
set_option linter.unusedSimpArgs false
set_option linter.unusedVariables false
namespace Go.Vm.Tre
open Go.Vm.Lex (isL isD isLD wordB wordsL hd0 speltB nameB)
set_option maxRecDepth 10000
section
variable {fx : Nat → Option Obj} (H : Hp)
theorem rletter_ev (c : UInt8) : evF (pgL fx) n_ref11_letter [u8 c] H = some (boo (isL c), H) := by
  refine evF_wp t_ref11_letter rfl rfl ?_ H
  repeat' refine And.intro (fun h => ?_) (fun h => ?_)
  all_goals show _ = _
  all_goals simp [oneOf, isL] at *
  all_goals grind
theorem rdigit_ev (c : UInt8) : evF (pgL fx) n_ref11_digit [u8 c] H = some (boo (isD c), H) := by
  refine evF_wp t_ref11_digit rfl rfl ?_ H
  repeat' refine And.intro (fun h => ?_) (fun h => ?_)
  all_goals show _ = _
  all_goals simp [oneOf, isD] at *
  all_goals grind
theorem rword_ev (s : List UInt8) : evF (pgL fx) n_ref11_Word [str s] H = some (boo (wordB s), H) := by
  refine evF_wp t_ref11_Word rfl rfl ?_ H
  refine wp_loop (α := Nat) (fun i => 17 - i) (fun i => [(0, str s), (5, .d (.sl (wordsL.map .str))), (6, i64 17), (7, i64 i)]) (fun _ => []) (fun i => i ≤ 17 ∧ ∀ x ∈ wordsL.take i, s ≠ x) ?_ 0 ⟨by omega, by simp⟩
  rintro i ⟨hi, hall⟩
  refine And.intro (fun h => ?_) (fun h => ?_)
  · replace h := of_decide_eq_true h
    have hlt : i < wordsL.length := by show i < 17; omega
    have hlt' : i < (wordsL.map D.str).length := by rw [List.length_map]; exact hlt
    refine idx_of hlt' ?_
    rw [List.getElem_map]
    refine And.intro rfl ?_
    refine And.intro (fun h => ?_) (fun h => ?_)
    · replace h := of_decide_eq_true h
      show _ = _
      have : s ∈ wordsL := by rw [h]; exact List.getElem_mem _
      simp [oneOf, wordB, this]
    · replace h := of_decide_eq_false h
      refine ⟨i + 1, ⟨by omega, ?_⟩, by omega, ?_, rfl⟩
      · intro x hx
        rw [List.take_add_one, List.mem_append] at hx
        rcases hx with hx | hx
        · exact hall x hx
        · rw [List.getElem?_eq_getElem hlt] at hx
          simp only [Option.toList_some, List.mem_singleton] at hx
          rw [hx]; exact h
      · rw [i64w (by omega)]; rfl
  · replace h := of_decide_eq_false h
    have : i = 17 := by omega
    subst this
    show _ = _
    have : ¬ s ∈ wordsL := fun h => hall s (by rw [show wordsL.take 17 = wordsL from rfl]; exact h) rfl
    simp [oneOf, wordB, this]
set_option maxHeartbeats 1000000 in
theorem rspelt_ev (s : List UInt8) (hs : s.length ≤ maxLen) : evF (pgL fx) n_ref11_spelt [str s] H = some (boo (speltB s), H) := by
  have hm : s.length ≤ 9223372036854775807 := hs
  refine evF_wp t_ref11_spelt rfl rfl ?_ H
  by_cases h0 : s = []
  · subst h0
    repeat' (refine And.intro (fun h => ?_) (fun h => ?_) <;> try (exfalso; simp at h; done))
    all_goals rfl
  by_cases h1 : s = [95]
  · subst h1
    repeat' (refine And.intro (fun h => ?_) (fun h => ?_) <;> try (exfalso; simp at h; done))
    all_goals rfl
  repeat' (first
      | (refine And.intro (fun h => ?_) (fun h => ?_) <;> try (exfalso; simp_all; done))
      | refine idx0_of (by assumption) ?_
      | refine Exists.intro _ (Exists.intro _ (And.intro (rletter_ev _ _) ?_))
      | refine Exists.intro _ (Exists.intro _ (And.intro (rdigit_ev _ _) ?_)))
  all_goals first
    | (show _ = _; simp_all [oneOf, speltB]; done)
    | (show _ = _; obtain ⟨c, r, rfl⟩ := List.exists_cons_of_ne_nil h0; simp_all [oneOf, speltB, isLD, hd0]; done)
    | skip
  refine wp_loop (α := Nat) (fun i => s.length - i) (fun i => [(0, str s), (3, i64 i)]) (fun _ => []) (fun i => i ≤ s.length ∧ (s.take i).all isLD = true) ?_ 0 ⟨by omega, by simp⟩
  rintro i ⟨hi, hall⟩
  refine And.intro (fun hl => ?_) (fun hl => ?_)
  · replace hl := of_decide_eq_true hl
    have hlt : i < s.length := by omega
    repeat' (first
        | (refine And.intro (fun h => ?_) (fun h => ?_) <;> try (exfalso; simp_all; done))
        | refine idx_of hlt ?_
        | refine Exists.intro _ (Exists.intro _ (And.intro (rletter_ev _ _) ?_))
        | refine Exists.intro _ (Exists.intro _ (And.intro (rdigit_ev _ _) ?_)))
    all_goals first
      | (show _ = _
         have : s.all isLD = false := by
           cases hb : s.all isLD with
           | false => rfl
           | true =>
             have := List.all_eq_true.1 hb s[i] (List.getElem_mem _)
             simp_all [isLD]
         simp [oneOf, speltB, this]; done)
      | (refine ⟨i + 1, ⟨by omega, all_upto hlt hall (by simp_all [isLD])⟩, by omega, ?_, rfl⟩
         rw [i64w (by omega)]; rfl)
  · replace hl := of_decide_eq_false hl
    have hi : i = s.length := by omega
    rw [hi, List.take_length] at hall
    show _ = _
    have hd : isD (hd0 s) = false := by
      first | assumption | (have hl : isL (hd0 s) = true := by simp_all
                            simp [isL, isD] at hl ⊢; omega)
    simp [oneOf, speltB, h0, h1, hall, hd]
theorem rname_ev (s : List UInt8) (hs : s.length ≤ maxLen) : evF (pgL fx) n_ref11_Name [str s] H = some (boo (nameB s), H) := by
  refine evF_wp t_ref11_Name rfl rfl ?_ H
  repeat' (first
      | (refine And.intro (fun h => ?_) (fun h => ?_))
      | refine Exists.intro _ (Exists.intro _ (And.intro (rspelt_ev _ _ hs) ?_))
      | refine Exists.intro _ (Exists.intro _ (And.intro (rword_ev _ _) ?_)))
  all_goals show _ = _
  all_goals clear hs
  all_goals have e : ((s.length : Int) ≤ 64) = (s.length ≤ 64) := by simp only [eq_iff_iff]; omega
  all_goals simp only [e] at *
  all_goals clear e
  all_goals simp only [Bool.not_true, Bool.false_eq_true, decide_eq_true_eq, decide_eq_false_iff_not] at *
  all_goals simp [oneOf, nameB, *]
end
end Go.Vm.Tre
