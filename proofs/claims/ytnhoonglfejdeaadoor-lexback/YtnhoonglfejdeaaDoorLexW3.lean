import Derived.Test.YtnhoonglfejdeaaDoorLexW2
namespace Go.Vm.Lex
set_option maxRecDepth 10000
section
variable {fx : Nat → Option Obj} (H : Hp)
theorem ws_mem (c : UInt8) : c ∈ ([32, 9, 10, 13] : List UInt8) ↔ wsB c = true := by simp [wsB]
theorem tail_eq (s : List UInt8) (i : Nat) : List.drop (Int.toNat (i : Int)) (List.take s.length s) = s.drop i := by simp
theorem hp2_iff (c : UInt8) (r : List UInt8) : Lib.hasPrefix (c :: r) [47, 47] = true ↔ c = 47 ∧ r.head? = some 47 := by
  cases r with
  | nil => simp [Lib.hasPrefix, List.isPrefixOf]
  | cons d r => simp [Lib.hasPrefix, List.isPrefixOf]; constructor <;> (rintro ⟨rfl, rfl⟩; exact ⟨rfl, rfl⟩)
theorem rem_start (c : UInt8) (r : List UInt8) (h : c = 47 ∧ r.head? = some 47) : skipA false (c :: r) = skipA true (c :: r) := by
  obtain ⟨rfl, h⟩ := h
  rw [skipA_f, skipA_t, h]; simp [wsB]
theorem skip_ev (s : List UInt8) (hs : s.length ≤ maxLen) (at_ : Nat) (ha : at_ ≤ s.length) : evF (pgL fx) n_lex_skip [str s, i64 at_] H = some (i64 ((at_ + skipA false (s.drop at_) : Nat)), H) := by
  have hm : s.length ≤ 9223372036854775807 := hs
  refine evF_wp t_lex_skip rfl rfl ?_ H
  generalize hT : at_ + skipA false (s.drop at_) = T
  refine wp_loop (α := Nat) (fun i => s.length - i) (fun i => [(0, str s), (1, i64 i)]) (fun _ => []) (fun i => i ≤ s.length ∧ i + skipA false (s.drop i) = T) ?_ at_ ⟨ha, hT⟩
  clear hT ha at_
  rintro i ⟨hi, hr⟩
  refine And.intro (fun hl => ?_) (fun hl => ?_)
  · replace hl := of_decide_eq_true hl
    have hlt : i < s.length := by omega
    have hd : s.drop i = s[i] :: s.drop (i + 1) := List.drop_eq_getElem_cons hlt
    have hle := skipA_le false (s.drop i)
    rw [List.length_drop] at hle
    refine idx_of hlt ?_
    refine Exists.intro _ (Exists.intro _ (And.intro (ib_ev _ _ _) ?_))
    refine And.intro (fun h => ?_) (fun h => ?_)
    · replace h := (ib_mem _ _).1 (of_decide_eq_true h)
      rw [ws_mem] at h
      refine ⟨i + 1, ⟨by omega, ?_⟩, by omega, ?_, rfl⟩
      · rw [hd, skipA_f, if_pos h] at hr; omega
      · rw [i64w (by omega)]; rfl
    replace h := fun e => (of_decide_eq_false h) ((ib_mem _ _).2 ((ws_mem _).2 e))
    refine And.intro (by omega) ?_
    refine And.intro ⟨by omega, by omega⟩ ?_
    refine Exists.intro _ (Exists.intro _ (And.intro (hp_ev _ _ _) ?_))
    refine And.intro (fun h2 => ?_) (fun h2 => ?_)
    · rw [tail_eq, hd, hp2_iff] at h2
      have hr2 : i + skipA true (s.drop i) = T := by rw [← hr, hd, rem_start _ _ h2]
      rw [rem_eq] at hr2
      have hg := Lib.indexByte_ge (s.drop i) 10
      refine And.intro (by omega) ?_
      refine And.intro ⟨by omega, by omega⟩ ?_
      refine Exists.intro _ (Exists.intro _ (And.intro (ib_ev _ _ 10) ?_))
      refine And.intro (fun h3 => ?_) (fun h3 => ?_)
      · rw [tail_eq] at h3
        replace h3 := of_decide_eq_true h3
        rw [if_pos (by omega), List.length_drop] at hr2
        show _ = _
        simp only [oneOf]
        congr 3
        omega
      · rw [tail_eq] at h3
        replace h3 := of_decide_eq_false h3
        rw [if_neg (by omega)] at hr2
        have hpos : Lib.indexByte (s.drop i) 10 ≠ 0 := by
          intro e
          have := (Lib.indexByte_some (o := 0) (by rw [e]; rfl : Lib.indexByte (s.drop i) 10 = ((0 : Nat) : Int))).1
          rw [hd] at this
          simp [h2.1] at this
        have hlen := (List.getElem?_eq_some_iff.1 (Lib.indexByte_some (o := (Lib.indexByte (s.drop i) 10).toNat) (l := s.drop i) (c := 10) (by omega)).1).1
        rw [List.length_drop] at hlen
        refine ⟨i + (Lib.indexByte (s.drop i) 10).toNat, ⟨by omega, ?_⟩, by omega, ?_, rfl⟩
        · rw [List.drop_drop] at hr2; omega
        · rw [tail_eq, i64w (by omega)]
          congr 3
          simp; omega
    · rw [tail_eq, hd, ← Bool.not_eq_true, hp2_iff] at h2
      rw [hd, skipA_f, if_neg h, if_neg h2] at hr
      show _ = _
      simp only [oneOf]
      congr 3
  · replace hl := of_decide_eq_false hl
    rw [List.drop_eq_nil_of_le (by omega), skipA_nil] at hr
    show _ = _
    simp only [oneOf]
    congr 3
end
end Go.Vm.Lex
