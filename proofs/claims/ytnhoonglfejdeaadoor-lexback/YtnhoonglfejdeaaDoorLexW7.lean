import Derived.Test.YtnhoonglfejdeaaDoorLexW6
import Derived.Test.YtnhoonglfejdeaaDoorLexP3
namespace Go.Vm.Lex
set_option maxRecDepth 10000
section
variable {fx : Nat → Option Obj} (H : Hp)
theorem mid2_eq (s : List UInt8) (a n : Nat) : List.drop (Int.toNat (a : Int)) (List.take (Int.toNat ((a : Int) + n)) s) = (s.drop a).take n := by
  rw [show ((a : Int) + n).toNat = a + n by omega, Int.toNat_natCast, List.drop_take]; congr 1; omega
theorem rsign_ev (s : List UInt8) (a : Nat) (ha : a < s.length) (hs : a + 2 ≤ 9223372036854775807) : evF (pgL fx) n_ref11_sign [str s, i64 a] H = some (str (signL (s.drop a)), H) := by
  have hd : s.drop a = s[a] :: s.drop (a + 1) := List.drop_eq_getElem_cons ha
  have hl1 : 1 < (s.drop a).length ↔ a + 2 ≤ s.length := by rw [List.length_drop]; omega
  refine evF_wp t_ref11_sign rfl rfl ?_ H
  refine wp_loop (α := Nat) (fun i => 9 - i) (fun i => [(0, str s), (1, i64 a), (9, .d (.sl (twosL.map .str))), (10, i64 9), (11, i64 i)]) (fun _ => []) (fun i => i ≤ 9 ∧ ∀ x ∈ twosL.take i, ¬ (a + 2 ≤ s.length ∧ (s.drop a).take 2 = x)) ?_ 0 ⟨by omega, by simp⟩
  rintro i ⟨hi, hall⟩
  refine And.intro (fun hl => ?_) (fun hl => ?_)
  · replace hl := of_decide_eq_true hl
    have hlt : i < twosL.length := by show i < 9; omega
    have hlt' : i < (twosL.map D.str).length := by rw [List.length_map]; exact hlt
    refine idx_of hlt' ?_
    rw [List.getElem_map]
    refine And.intro rfl ?_
    have ew : IntKind.i64.wrap ((a : Int) + 2) = (a : Int) + 2 := i64w (by omega)
    have next : ¬ (a + 2 ≤ s.length ∧ (s.drop a).take 2 = twosL[i]) → ∀ x ∈ twosL.take (i + 1), ¬ (a + 2 ≤ s.length ∧ (s.drop a).take 2 = x) := by
      intro hn x hx
      rw [List.take_add_one, List.mem_append] at hx
      rcases hx with hx | hx
      · exact hall x hx
      · rw [List.getElem?_eq_getElem hlt] at hx
        simp only [Option.toList_some, List.mem_singleton] at hx
        rw [hx]; exact hn
    refine And.intro (fun h => ?_) (fun h => ?_)
    · replace h := of_decide_eq_true h
      rw [ew] at h
      refine And.intro (by omega) ?_
      refine And.intro (by rw [ew]; omega) ?_
      refine And.intro ⟨by rw [ew]; omega, by rw [ew]; omega⟩ ?_
      refine And.intro (fun h2 => ?_) (fun h2 => ?_)
      · replace h2 := of_decide_eq_true h2
        rw [ew, show ((a : Int) + 2) = (a : Int) + (2 : Nat) from rfl, mid2_eq] at h2
        show _ = _
        simp only [oneOf]
        unfold signL
        rw [if_pos ⟨hl1.2 (by omega), by rw [h2]; exact List.getElem_mem _⟩, h2]
      · replace h2 := of_decide_eq_false h2
        rw [ew, show ((a : Int) + 2) = (a : Int) + (2 : Nat) from rfl, mid2_eq] at h2
        refine ⟨i + 1, ⟨by omega, next fun e => h2 e.2⟩, by omega, ?_, rfl⟩
        rw [i64w (by omega)]; rfl
    · replace h := of_decide_eq_false h
      rw [ew] at h
      refine And.intro (fun h2 => ?_) (fun h2 => ?_)
      · cases h2
      · refine ⟨i + 1, ⟨by omega, next fun e => by omega⟩, by omega, ?_, rfl⟩
        rw [i64w (by omega)]; rfl
  · replace hl := of_decide_eq_false hl
    have hi9 : i = 9 := by omega
    subst hi9
    have hno : ¬ (1 < (s.drop a).length ∧ (s.drop a).take 2 ∈ twosL) := by
      rintro ⟨h1, h2⟩
      exact hall _ (by rw [show twosL.take 9 = twosL from rfl]; exact h2) ⟨hl1.1 h1, rfl⟩
    obtain ⟨fz, hfz⟩ : ∃ fz, fz = onesL.map fun c => D.int .u8 c.toNat := ⟨_, rfl⟩
    refine Exists.intro (.arr 0 0 19) (Exists.intro [.frz fz] (And.intro (by rw [hfz]; rfl) ?_))
    refine Exists.intro (.arr 0 0 19) (Exists.intro [.frz fz] (And.intro rfl ?_))
    refine wp_loop (α := Nat) (fun j => 19 - j) (fun j => [(0, str s), (1, i64 a), (32, .arr 0 0 19), (33, i64 19), (34, i64 j)]) (fun _ => [.frz fz]) (fun j => j ≤ 19 ∧ ∀ x ∈ onesL.take j, s[a] ≠ x) ?_ 0 ⟨by omega, by simp⟩
    rintro j ⟨hj, hjall⟩
    refine And.intro (fun hl => ?_) (fun hl => ?_)
    · replace hl := of_decide_eq_true hl
      have hjt : j < onesL.length := by show j < 19; omega
      refine And.intro ⟨by omega, by omega⟩ ?_
      have hnth : (List.map V.d fz)[0 + Int.toNat (j : Int) * 1]? = some (V.d (.int .u8 onesL[j].toNat)) := by
        rw [show 0 + Int.toNat (j : Int) * 1 = j by omega, hfz]
        simp [hjt]
      refine nthK_of hnth ?_
      refine idx_of ha ?_
      refine And.intro (fun h => ?_) (fun h => ?_)
      · replace h := of_decide_eq_true h
        have hc : s[a] = onesL[j] := by rw [u8eq]; omega
        have ew : IntKind.i64.wrap ((a : Int) + 1) = (a : Int) + 1 := i64w (by omega)
        refine And.intro (by omega) ?_
        refine And.intro (by rw [ew]; omega) ?_
        refine And.intro ⟨by rw [ew]; omega, by rw [ew]; omega⟩ ?_
        rw [ew, show ((a : Int) + 1) = (a : Int) + (1 : Nat) from rfl, mid2_eq]
        show _ = _
        simp only [oneOf]
        unfold signL
        rw [if_neg hno, if_pos ⟨by rw [hd]; exact List.cons_ne_nil _ _, by rw [hd]; show s[a] ∈ onesL; rw [hc]; exact List.getElem_mem _⟩]
      · replace h := of_decide_eq_false h
        refine ⟨j + 1, ⟨by omega, fun x hx => ?_⟩, by omega, ?_, rfl⟩
        · rw [List.take_add_one, List.mem_append] at hx
          rcases hx with hx | hx
          · exact hjall x hx
          · rw [List.getElem?_eq_getElem hjt] at hx
            simp only [Option.toList_some, List.mem_singleton] at hx
            rw [hx]; intro e; rw [e] at h; exact h rfl
        · rw [i64w (by omega)]; rfl
    · replace hl := of_decide_eq_false hl
      have hj9 : j = 19 := by omega
      subst hj9
      show _ = _
      simp only [oneOf]
      unfold signL
      rw [if_neg hno, if_neg (by
        rintro ⟨_, h2⟩
        rw [hd] at h2
        exact hjall _ (by rw [show onesL.take 19 = onesL from rfl]; exact h2) rfl)]
end
end Go.Vm.Lex
