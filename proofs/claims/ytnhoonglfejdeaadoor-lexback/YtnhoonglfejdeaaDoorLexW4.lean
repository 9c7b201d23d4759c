import Derived.Test.YtnhoonglfejdeaaDoorLexW3
set_option linter.unusedSimpArgs false
set_option linter.unusedVariables false
namespace Go.Vm.Lex
set_option maxRecDepth 10000
section
variable {fx : Nat → Option Obj} (H : Hp)
theorem u8eq (c d : UInt8) : c = d ↔ c.toNat = d.toNat := UInt8.toNat_inj.symm
theorem idxS {s : List UInt8} {i : Nat} (hm : s.length ≤ 9223372036854775807) (h : i + 1 < s.length) {k : UInt8 → Prop} (hk : k s[i + 1]) : ∃ c, (0 ≤ IntKind.i64.wrap ((i : Int) + 1) ∧ s[(IntKind.i64.wrap ((i : Int) + 1)).toNat]? = some c) ∧ k c := by
  rw [i64w (by omega)]
  exact ⟨_, ⟨by omega, by rw [show ((i : Int) + 1).toNat = i + 1 by omega, List.getElem?_eq_getElem h]⟩, hk⟩
set_option maxHeartbeats 2000000 in
theorem blank_ev (s : List UInt8) (hs : s.length ≤ maxLen) (at_ : Nat) (ha : at_ ≤ s.length) : evF (pgL fx) n_ref11_blank [str s, i64 at_] H = some (i64 ((at_ + skipA false (s.drop at_) : Nat)), H) := by
  have hm : s.length ≤ 9223372036854775807 := hs
  clear hs
  refine evF_wp t_ref11_blank rfl rfl ?_ H
  generalize hT : at_ + skipA false (s.drop at_) = T
  refine wp_loop (α := Nat) (fun i => s.length - i) (fun i => [(0, str s), (1, i64 i)]) (fun _ => []) (fun i => i ≤ s.length ∧ i + skipA false (s.drop i) = T) ?_ at_ ⟨ha, hT⟩
  clear hT ha at_
  rintro i ⟨hi, hr⟩
  refine And.intro (fun hl => ?_) (fun hl => ?_)
  · replace hl := of_decide_eq_true hl
    have hlt : i < s.length := by omega
    have hd : s.drop i = s[i] :: s.drop (i + 1) := List.drop_eq_getElem_cons hlt
    have w : wsB s[i] = true ↔ (s[i].toNat = 32 ∨ s[i].toNat = 9 ∨ s[i].toNat = 10 ∨ s[i].toNat = 13) := by simp [wsB, u8eq]
    have q : s[i] = 47 ↔ s[i].toNat = 47 := u8eq _ 47
    have ew : IntKind.i64.wrap ((i : Int) + 1) = (i : Int) + 1 := i64w (by omega)
    refine idx_of hlt ?_
    repeat' (first
        | (refine And.intro (fun h => ?_) (fun h => ?_) <;> try (exfalso; (simp at h; done)))
        | refine idxS hm (by (have hx : ¬ (IntKind.i64.wrap ((i : Int) + 1) = (s.length : Int)) := of_decide_eq_false (by assumption)); omega) ?_)
    all_goals simp only [Bool.not_true, Bool.not_false, Bool.not_eq_true', Bool.not_eq_false', decide_eq_true_eq, decide_eq_false_iff_not] at *
    all_goals first
      | (refine ⟨i + 1, ⟨by omega, ?_⟩, by omega, ?_, rfl⟩
         · rw [hd, skipA_f, if_pos (w.2 (by omega))] at hr; omega
         · rw [ew]; rfl)
      | (show _ = _
         have hn : ¬ (s[i] = 47 ∧ (s.drop (i + 1)).head? = some 47) := by
           rintro ⟨h1, h2⟩
           rw [q] at h1
           rw [List.head?_drop] at h2
           obtain ⟨h3, h4⟩ := List.getElem?_eq_some_iff.1 h2
           have h5 : (s[i + 1]'h3).toNat = 47 := by rw [h4]; rfl
           omega
         rw [hd, skipA_f, if_neg (fun e => by have := w.1 e; omega), if_neg hn] at hr
         simp only [oneOf]
         congr 3; done)
      | skip
    have hlt2 : i + 1 < s.length := by
      have hx : ¬ (IntKind.i64.wrap ((i : Int) + 1) = (s.length : Int)) := of_decide_eq_false (by assumption)
      omega
    have hh : s[i] = 47 ∧ (s.drop (i + 1)).head? = some 47 := by
      refine ⟨q.2 (by omega), ?_⟩
      rw [List.head?_drop, List.getElem?_eq_getElem hlt2]
      congr 1
      rw [u8eq]
      show s[i + 1].toNat = 47
      omega
    have hr2 : i + skipA true (s.drop i) = T := by rw [← hr, hd, rem_start _ _ hh]
    refine wp_loop (α := Nat) (fun j => s.length - j) (fun j => [(0, str s), (1, i64 j)]) (fun _ => []) (fun j => i ≤ j ∧ j ≤ s.length ∧ j + skipA true (s.drop j) = T) ?_ i ⟨by omega, by omega, hr2⟩
    rintro j ⟨h1, h2, h3⟩
    refine And.intro (fun hj => ?_) (fun hj => ?_)
    · replace hj := of_decide_eq_true hj
      have hjt : j < s.length := by omega
      have hdj : s.drop j = s[j] :: s.drop (j + 1) := List.drop_eq_getElem_cons hjt
      have qj : s[j] = 10 ↔ s[j].toNat = 10 := u8eq _ 10
      refine idx_of hjt ?_
      rw [hdj, skipA_t] at h3
      refine And.intro (fun h => ?_) (fun h => ?_)
      · simp only [Bool.not_eq_true', decide_eq_false_iff_not] at h
        rw [if_neg (fun e => h (by rw [qj.1 e]; rfl))] at h3
        refine ⟨j + 1, ⟨by omega, by omega, by omega⟩, by omega, ?_, rfl⟩
        rw [i64w (by omega)]; rfl
      · simp only [Bool.not_eq_false', decide_eq_true_eq] at h
        have h10 : s[j] = 10 := qj.2 (by omega)
        rw [if_pos h10] at h3
        have hne : i ≠ j := by rintro rfl; omega
        refine ⟨j, ⟨by omega, ?_⟩, by omega, rfl, rfl⟩
        rw [hdj, skipA_f, if_pos (by simp [wsB, h10])]; omega
    · replace hj := of_decide_eq_false hj
      rw [List.drop_eq_nil_of_le (by omega), skipA_nil] at h3
      repeat' (refine And.intro (fun h => ?_) (fun h => ?_) <;> try (exfalso; simp at h; done))
      all_goals
        refine ⟨j, ⟨by omega, ?_⟩, by omega, rfl, rfl⟩
        rw [List.drop_eq_nil_of_le (by omega), skipA_nil]; omega
  · replace hl := of_decide_eq_false hl
    rw [List.drop_eq_nil_of_le (by omega), skipA_nil] at hr
    show _ = _
    simp only [oneOf]
    congr 3
end
end Go.Vm.Lex
