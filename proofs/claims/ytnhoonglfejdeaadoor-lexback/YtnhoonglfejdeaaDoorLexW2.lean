import Derived.Test.YtnhoonglfejdeaaDoorLexW
import Derived.Test.YtnhoonglfejdeaaDoorLexP5
import Derived.Test.YtnhoonglfejdeaaDoorVmPrimLex
set_option linter.unusedSimpArgs false
set_option linter.unusedVariables false
namespace Go.Vm.Lex
set_option maxRecDepth 10000
section
variable {fx : Nat → Option Obj} (H : Hp)
theorem name_ev (s : List UInt8) (hs : s.length ≤ maxLen) : evF (pgL fx) n_lex_Name [str s] H = some (boo (nameB s), H) := by
  refine evF_wp t_lex_Name rfl rfl ?_ H
  repeat' (first
      | (refine And.intro (fun h => ?_) (fun h => ?_))
      | refine Exists.intro _ (Exists.intro _ (And.intro (spelt_ev _ _ hs) ?_))
      | refine Exists.intro _ (Exists.intro _ (And.intro (word_ev _ _) ?_)))
  all_goals show _ = _
  all_goals clear hs
  all_goals have e : ((s.length : Int) ≤ 64) = (s.length ≤ 64) := by simp only [eq_iff_iff]; omega
  all_goals simp only [e] at *
  all_goals clear e
  all_goals simp only [Bool.not_true, Bool.false_eq_true, decide_eq_true_eq, decide_eq_false_iff_not] at *
  all_goals simp [oneOf, nameB, *]
theorem rname_ev (s : List UInt8) (hs : s.length ≤ maxLen) : evF (pgL fx) n_ref11_Name [str s] H = some (boo (nameB s), H) := by
  refine evF_wp t_ref11_Name rfl rfl ?_ H
  repeat' (first
      | (refine And.intro (fun h => ?_) (fun h => ?_))
      | refine Exists.intro _ (Exists.intro _ (And.intro (rspelt_ev _ _ hs) ?_))
      | refine Exists.intro _ (Exists.intro _ (And.intro (rword_ev _ _) ?_)))
  all_goals show _ = _
  all_goals clear hs
  all_goals have e : ((s.length : Int) ≤ 64) = (s.length ≤ 64) := by simp only [eq_iff_iff]; omega
  all_goals simp only [e] at *
  all_goals clear e
  all_goals simp only [Bool.not_true, Bool.false_eq_true, decide_eq_true_eq, decide_eq_false_iff_not] at *
  all_goals simp [oneOf, nameB, *]
theorem run_ev (s : List UInt8) (hs : s.length ≤ maxLen) : evF (pgL fx) n_lex_run [str s] H = some (i64 (runL s : Nat), H) := by
  have hm : s.length ≤ 9223372036854775807 := hs
  refine evF_wp t_lex_run rfl rfl ?_ H
  refine wp_loop (α := Nat) (fun i => s.length - i) (fun i => [(0, str s), (3, i64 i)]) (fun _ => []) (fun i => i ≤ s.length ∧ i + runL (s.drop i) = runL s) ?_ 0 ⟨by omega, by simp⟩
  rintro i ⟨hi, hr⟩
  refine And.intro (fun hl => ?_) (fun hl => ?_)
  · replace hl := of_decide_eq_true hl
    have hlt : i < s.length := by omega
    rw [runL_drop (List.getElem?_eq_getElem hlt)] at hr
    repeat' (first
        | (refine And.intro (fun h => ?_) (fun h => ?_) <;> try (exfalso; (have h1 := h; simp_all; done)))
        | refine idx_of hlt ?_
        | refine Exists.intro _ (Exists.intro _ (And.intro (letter_ev _ _) ?_))
        | refine Exists.intro _ (Exists.intro _ (And.intro (digit_ev _ _) ?_)))
    all_goals first
      | (show _ = _
         have : isLD s[i] = false := by simp_all [isLD]
         rw [this] at hr
         simp at hr
         simp [oneOf, hr]; done)
      | (have : isLD s[i] = true := by simp_all [isLD]
         rw [this] at hr
         simp at hr
         refine ⟨i + 1, ⟨by omega, by omega⟩, by omega, ?_, rfl⟩
         rw [i64w (by omega)]; rfl)
  · replace hl := of_decide_eq_false hl
    rw [runL_end (by omega)] at hr
    repeat' (refine And.intro (fun h => ?_) (fun h => ?_) <;> try (exfalso; simp at h; done))
    all_goals show _ = _
    all_goals simp [oneOf]
    all_goals omega
theorem rrun_ev (s : List UInt8) (at_ : Nat) (ha : at_ ≤ s.length) (hs : s.length ≤ maxLen) : evF (pgL fx) n_ref11_run [str s, i64 at_] H = some (i64 (at_ + runL (s.drop at_) : Nat), H) := by
  have hm : s.length ≤ 9223372036854775807 := hs
  refine evF_wp t_ref11_run rfl rfl ?_ H
  refine wp_loop (α := Nat) (fun i => s.length - i) (fun i => [(0, str s), (1, i64 i)]) (fun _ => []) (fun i => i ≤ s.length ∧ i + runL (s.drop i) = at_ + runL (s.drop at_)) ?_ at_ ⟨by omega, by simp⟩
  rintro i ⟨hi, hr⟩
  refine And.intro (fun hl => ?_) (fun hl => ?_)
  · replace hl := of_decide_eq_true hl
    have hlt : i < s.length := by omega
    rw [runL_drop (List.getElem?_eq_getElem hlt)] at hr
    repeat' (first
        | (refine And.intro (fun h => ?_) (fun h => ?_) <;> try (exfalso; (have h1 := h; simp_all; done)))
        | refine idx_of hlt ?_
        | refine Exists.intro _ (Exists.intro _ (And.intro (rletter_ev _ _) ?_))
        | refine Exists.intro _ (Exists.intro _ (And.intro (rdigit_ev _ _) ?_)))
    all_goals first
      | (show _ = _
         have : isLD s[i] = false := by simp_all [isLD]
         rw [this] at hr
         simp at hr
         simp [oneOf, hr]; done)
      | (have : isLD s[i] = true := by simp_all [isLD]
         rw [this] at hr
         simp at hr
         refine ⟨i + 1, ⟨by omega, by omega⟩, by omega, ?_, rfl⟩
         rw [i64w (by omega)]; rfl)
  · replace hl := of_decide_eq_false hl
    rw [runL_end (by omega)] at hr
    repeat' (refine And.intro (fun h => ?_) (fun h => ?_) <;> try (exfalso; simp at h; done))
    all_goals show _ = _
    all_goals simp [oneOf]
    all_goals omega
theorem two_ev (s : List UInt8) : evF (pgL fx) n_lex_two [str s] H = some (boo (decide (s ∈ twosL)), H) := by
  refine evF_wp t_lex_two rfl rfl ?_ H
  repeat' refine And.intro (fun h => ?_) (fun h => ?_)
  all_goals show _ = _
  all_goals simp only [decide_eq_true_eq, decide_eq_false_iff_not] at *
  all_goals simp [oneOf, twosL, *]
theorem ib_ev (s : List UInt8) (c : UInt8) : evF (pgL fx) n_primIndexByte [str s, u8 c] H = some (i64 (Lib.indexByte s c), H) := by
  rw [evF_prim t_primIndexByte]
  show some (V.d (D.int .i64 (Lib.indexByte s ((c.toNat : Int)).toNat.toUInt8)), H) = _
  simp
theorem hp_ev (s p : List UInt8) : evF (pgL fx) n_primHasPrefix [str s, str p] H = some (boo (Lib.hasPrefix s p), H) := by
  rw [evF_prim t_primHasPrefix]; rfl
theorem ib_mem (s : List UInt8) (c : UInt8) : 0 ≤ Lib.indexByte s c ↔ c ∈ s := by
  have hg := Lib.indexByte_ge s c
  constructor
  · intro h
    have := (Lib.indexByte_some (o := (Lib.indexByte s c).toNat) (l := s) (c := c) (by omega)).1
    exact List.mem_of_getElem? this
  · intro h
    apply Classical.byContradiction
    intro hn
    have h1 : Lib.indexByte s c = -1 := by omega
    obtain ⟨k, hk⟩ := List.mem_iff_getElem?.1 h
    exact Lib.indexByte_none h1 k hk
theorem sign_ev (s : List UInt8) : evF (pgL fx) n_lex_sign [str s] H = some (str (signL s), H) := by
  refine evF_wp t_lex_sign rfl rfl ?_ H
  cases s with
  | nil =>
    repeat' (refine And.intro (fun h => ?_) (fun h => ?_) <;> try (exfalso; simp at h; done))
    all_goals rfl
  | cons c r =>
    repeat' (first
        | (refine And.intro (fun h => ?_) (fun h => ?_) <;> try (exfalso; (simp at h; done)))
        | refine And.intro ⟨Nat.zero_le _, by first | (simp; done) | (simp at *; omega)⟩ ?_
        | refine idx0_of (by simp) ?_
        | refine Exists.intro _ (Exists.intro _ (And.intro (two_ev _ _) ?_))
        | refine Exists.intro _ (Exists.intro _ (And.intro (ib_ev _ _ _) ?_)))
    all_goals show _ = _
    all_goals simp only [decide_eq_true_eq, decide_eq_false_iff_not, ib_mem, List.drop_zero, gt_iff_lt, ge_iff_le] at *
    all_goals simp_all [oneOf, signL, hd0, onesL]
    all_goals intros
    all_goals first | omega | (subst_vars; simp at *; done)
end
end Go.Vm.Lex
