import Derived.Test.YtnhoonglfejdeaaDoorLexCode
import Derived.Test.YtnhoonglfejdeaaDoorLexP5
import Derived.Test.YtnhoonglfejdeaaDoorVmWp2
import Derived.Test.YtnhoonglfejdeaaDoorVmNum
namespace Go.Vm.Lex
set_option maxRecDepth 10000
def pgL (fx : Nat → Option Obj) : Pg := ⟨⟨fun _ => [], fx⟩, tbl⟩
abbrev u8 (c : UInt8) : V := .d (.int .u8 c.toNat)
abbrev str (s : List UInt8) : V := .d (.str s)
abbrev i64 (n : Int) : V := .d (.int .i64 n)
abbrev boo (b : Bool) : V := .d (.bool b)
section
variable {fx : Nat → Option Obj} (H : Hp)
theorem letter_ev (c : UInt8) : evF (pgL fx) n_lex_letter [u8 c] H = some (boo (isL c), H) := by
  refine evF_wp t_lex_letter rfl rfl ?_ H
  repeat' refine And.intro (fun h => ?_) (fun h => ?_)
  all_goals show _ = _
  all_goals simp [oneOf, isL] at *
  all_goals grind
theorem rletter_ev (c : UInt8) : evF (pgL fx) n_ref11_letter [u8 c] H = some (boo (isL c), H) := by
  refine evF_wp t_ref11_letter rfl rfl ?_ H
  repeat' refine And.intro (fun h => ?_) (fun h => ?_)
  all_goals show _ = _
  all_goals simp [oneOf, isL] at *
  all_goals grind
theorem digit_ev (c : UInt8) : evF (pgL fx) n_lex_digit [u8 c] H = some (boo (isD c), H) := by
  refine evF_wp t_lex_digit rfl rfl ?_ H
  repeat' refine And.intro (fun h => ?_) (fun h => ?_)
  all_goals show _ = _
  all_goals simp [oneOf, isD] at *
  all_goals omega
theorem rdigit_ev (c : UInt8) : evF (pgL fx) n_ref11_digit [u8 c] H = some (boo (isD c), H) := by
  refine evF_wp t_ref11_digit rfl rfl ?_ H
  repeat' refine And.intro (fun h => ?_) (fun h => ?_)
  all_goals show _ = _
  all_goals simp [oneOf, isD] at *
  all_goals grind
theorem word_ev (s : List UInt8) : evF (pgL fx) n_lex_Word [str s] H = some (boo (wordB s), H) := by
  refine evF_wp t_lex_Word rfl rfl ?_ H
  repeat' refine And.intro (fun h => ?_) (fun h => ?_)
  all_goals show _ = _
  all_goals simp only [decide_eq_true_eq, decide_eq_false_iff_not] at *
  all_goals simp [oneOf, wordB, wordsL, *]
theorem idx_of {α : Type} {s : List α} {i : Nat} (h : i < s.length) {k : α → Prop} (hk : k s[i]) : ∃ c, ((0 : Int) ≤ (i : Int) ∧ s[(i : Int).toNat]? = some c) ∧ k c :=
  ⟨s[i], ⟨by omega, by rw [Int.toNat_natCast, List.getElem?_eq_getElem h]⟩, hk⟩
theorem rword_ev (s : List UInt8) : evF (pgL fx) n_ref11_Word [str s] H = some (boo (wordB s), H) := by
  refine evF_wp t_ref11_Word rfl rfl ?_ H
  refine wp_loop (α := Nat) (fun i => 17 - i) (fun i => [(0, str s), (5, .d (.sl (wordsL.map .str))), (6, i64 17), (7, i64 i)]) (fun _ => []) (fun i => i ≤ 17 ∧ ∀ x ∈ wordsL.take i, s ≠ x) ?_ 0 ⟨by omega, by simp⟩
  rintro i ⟨hi, hall⟩
  refine And.intro (fun h => ?_) (fun h => ?_)
  · replace h := of_decide_eq_true h
    have hlt : i < wordsL.length := by show i < 17; omega
    have hlt' : i < (wordsL.map D.str).length := by rw [List.length_map]; exact hlt
    refine idx_of hlt' ?_
    rw [List.getElem_map]
    refine And.intro rfl ?_
    refine And.intro (fun h => ?_) (fun h => ?_)
    · replace h := of_decide_eq_true h
      show _ = _
      have : s ∈ wordsL := by rw [h]; exact List.getElem_mem _
      simp [oneOf, wordB, this]
    · replace h := of_decide_eq_false h
      refine ⟨i + 1, ⟨by omega, ?_⟩, by omega, ?_, rfl⟩
      · intro x hx
        rw [List.take_add_one, List.mem_append] at hx
        rcases hx with hx | hx
        · exact hall x hx
        · rw [List.getElem?_eq_getElem hlt] at hx
          simp only [Option.toList_some, List.mem_singleton] at hx
          rw [hx]; exact h
      · rw [i64w (by omega)]; rfl
  · replace h := of_decide_eq_false h
    have : i = 17 := by omega
    subst this
    show _ = _
    have : ¬ s ∈ wordsL := fun h => hall s (by rw [show wordsL.take 17 = wordsL from rfl]; exact h) rfl
    simp [oneOf, wordB, this]
theorem idx0_of {s : List UInt8} (h : s ≠ []) {k : UInt8 → Prop} (hk : k (hd0 s)) : ∃ c, ((0 : Int) ≤ 0 ∧ s[(0 : Int).toNat]? = some c) ∧ k c := by
  cases s with
  | nil => exact absurd rfl h
  | cons c r => exact ⟨c, ⟨Int.le_refl _, rfl⟩, hk⟩
/-- An end of a string. -/
theorem len_toNat {s : List UInt8} {i : Nat} (hi : i ≤ s.length) (h : ¬ ((i : Int) < (s.length : Int))) : i = s.length := by omega
theorem all_upto {p : UInt8 → Bool} {s : List UInt8} {i : Nat} (hi : i < s.length) (h : (s.take i).all p = true) (hp : p s[i] = true) : (s.take (i + 1)).all p = true := by
  rw [List.take_add_one, List.getElem?_eq_getElem hi, List.all_append, h]
  simp [hp]
set_option maxHeartbeats 1000000 in
theorem spelt_ev (s : List UInt8) (hs : s.length ≤ maxLen) : evF (pgL fx) n_lex_spelt [str s] H = some (boo (speltB s), H) := by
  have hm : s.length ≤ 9223372036854775807 := hs
  refine evF_wp t_lex_spelt rfl rfl ?_ H
  by_cases h0 : s = []
  · subst h0
    repeat' (refine And.intro (fun h => ?_) (fun h => ?_) <;> try (exfalso; simp at h; done))
    all_goals rfl
  by_cases h1 : s = [95]
  · subst h1
    repeat' (refine And.intro (fun h => ?_) (fun h => ?_) <;> try (exfalso; simp at h; done))
    all_goals rfl
  repeat' (first
      | (refine And.intro (fun h => ?_) (fun h => ?_) <;> try (exfalso; simp_all; done))
      | refine idx0_of (by assumption) ?_
      | refine Exists.intro _ (Exists.intro _ (And.intro (letter_ev _ _) ?_))
      | refine Exists.intro _ (Exists.intro _ (And.intro (digit_ev _ _) ?_)))
  all_goals first
    | (show _ = _; simp_all [oneOf, speltB]; done)
    | (show _ = _; obtain ⟨c, r, rfl⟩ := List.exists_cons_of_ne_nil h0; simp_all [oneOf, speltB, isLD, hd0]; done)
    | skip
  refine wp_loop (α := Nat) (fun i => s.length - i) (fun i => [(0, str s), (16, i64 s.length), (17, i64 i)]) (fun _ => []) (fun i => i ≤ s.length ∧ (s.take i).all isLD = true) ?_ 0 ⟨by omega, by simp⟩
  rintro i ⟨hi, hall⟩
  refine And.intro (fun hl => ?_) (fun hl => ?_)
  · replace hl := of_decide_eq_true hl
    have hlt : i < s.length := by omega
    repeat' (first
        | (refine And.intro (fun h => ?_) (fun h => ?_) <;> try (exfalso; simp_all; done))
        | refine idx_of hlt ?_
        | refine Exists.intro _ (Exists.intro _ (And.intro (letter_ev _ _) ?_))
        | refine Exists.intro _ (Exists.intro _ (And.intro (digit_ev _ _) ?_)))
    all_goals first
      | (show _ = _
         have : s.all isLD = false := by
           cases hb : s.all isLD with
           | false => rfl
           | true =>
             have := List.all_eq_true.1 hb s[i] (List.getElem_mem _)
             simp_all [isLD]
         simp [oneOf, speltB, this]; done)
      | (refine ⟨i + 1, ⟨by omega, all_upto hlt hall (by simp_all [isLD])⟩, by omega, ?_, rfl⟩
         rw [i64w (by omega)]; rfl)
  · replace hl := of_decide_eq_false hl
    have hi : i = s.length := by omega
    rw [hi, List.take_length] at hall
    show _ = _
    have hd : isD (hd0 s) = false := by
      first | assumption | (have hl : isL (hd0 s) = true := by simp_all
                            simp [isL, isD] at hl ⊢; omega)
    simp [oneOf, speltB, h0, h1, hall, hd]
set_option maxHeartbeats 1000000 in
theorem rspelt_ev (s : List UInt8) (hs : s.length ≤ maxLen) : evF (pgL fx) n_ref11_spelt [str s] H = some (boo (speltB s), H) := by
  have hm : s.length ≤ 9223372036854775807 := hs
  refine evF_wp t_ref11_spelt rfl rfl ?_ H
  by_cases h0 : s = []
  · subst h0
    repeat' (refine And.intro (fun h => ?_) (fun h => ?_) <;> try (exfalso; simp at h; done))
    all_goals rfl
  by_cases h1 : s = [95]
  · subst h1
    repeat' (refine And.intro (fun h => ?_) (fun h => ?_) <;> try (exfalso; simp at h; done))
    all_goals rfl
  repeat' (first
      | (refine And.intro (fun h => ?_) (fun h => ?_) <;> try (exfalso; simp_all; done))
      | refine idx0_of (by assumption) ?_
      | refine Exists.intro _ (Exists.intro _ (And.intro (rletter_ev _ _) ?_))
      | refine Exists.intro _ (Exists.intro _ (And.intro (rdigit_ev _ _) ?_)))
  all_goals first
    | (show _ = _; simp_all [oneOf, speltB]; done)
    | (show _ = _; obtain ⟨c, r, rfl⟩ := List.exists_cons_of_ne_nil h0; simp_all [oneOf, speltB, isLD, hd0]; done)
    | skip
  refine wp_loop (α := Nat) (fun i => s.length - i) (fun i => [(0, str s), (3, i64 i)]) (fun _ => []) (fun i => i ≤ s.length ∧ (s.take i).all isLD = true) ?_ 0 ⟨by omega, by simp⟩
  rintro i ⟨hi, hall⟩
  refine And.intro (fun hl => ?_) (fun hl => ?_)
  · replace hl := of_decide_eq_true hl
    have hlt : i < s.length := by omega
    repeat' (first
        | (refine And.intro (fun h => ?_) (fun h => ?_) <;> try (exfalso; simp_all; done))
        | refine idx_of hlt ?_
        | refine Exists.intro _ (Exists.intro _ (And.intro (rletter_ev _ _) ?_))
        | refine Exists.intro _ (Exists.intro _ (And.intro (rdigit_ev _ _) ?_)))
    all_goals first
      | (show _ = _
         have : s.all isLD = false := by
           cases hb : s.all isLD with
           | false => rfl
           | true =>
             have := List.all_eq_true.1 hb s[i] (List.getElem_mem _)
             simp_all [isLD]
         simp [oneOf, speltB, this]; done)
      | (refine ⟨i + 1, ⟨by omega, all_upto hlt hall (by simp_all [isLD])⟩, by omega, ?_, rfl⟩
         rw [i64w (by omega)]; rfl)
  · replace hl := of_decide_eq_false hl
    have hi : i = s.length := by omega
    rw [hi, List.take_length] at hall
    show _ = _
    have hd : isD (hd0 s) = false := by
      first | assumption | (have hl : isL (hd0 s) = true := by simp_all
                            simp [isL, isD] at hl ⊢; omega)
    simp [oneOf, speltB, h0, h1, hall, hd]
end
end Go.Vm.Lex
