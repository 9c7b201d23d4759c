import Derived.Test.YtnhoonglfejdeaaDoorLexW5
namespace Go.Vm.Lex
set_option maxRecDepth 10000
theorem valD_take {s : List UInt8} {i : Nat} (h : i < s.length) : valD (s.take (i + 1)) = valD (s.take i) * 10 + dig s[i] := by
  unfold valD valA
  rw [List.take_add_one, List.getElem?_eq_getElem h, List.foldl_append]; rfl
theorem valD_ge {s : List UInt8} (i : Nat) : valD (s.take i) ≤ valD s := by
  have h : valD s = valA (valD (s.take i)) (s.drop i) := by
    unfold valD valA
    rw [← List.foldl_append, List.take_append_drop]
  rw [h]; exact valA_ge _ _
section
variable {fx : Nat → Option Obj} (H : Hp)
theorem rnumber_ev (s : List UInt8) (hs : s.length ≤ maxLen) (hd : s.all isD = true) : ∃ v : Int, (numB s = true → v = valD s) ∧ ∀ H : Hp, evF (pgL fx) n_ref11_number [str s] H = some (.tup [i64 v, boo (numB s)], H) := by
  have hm : s.length ≤ 9223372036854775807 := hs
  have hnb : numB s = decide (valD s ≤ 9223372036854775807) := by simp [numB, hd]
  have hdig : ∀ i (h : i < s.length), 48 ≤ s[i].toNat ∧ s[i].toNat ≤ 57 := by
    intro i h
    have := List.all_eq_true.1 hd s[i] (List.getElem_mem _)
    simpa [isD] using this
  have key : ∀ v : Int, (∃ j, j < s.length ∧ 922337203685477580 < valD (s.take j)) ∧ v = 0 ∨ (∀ j, j < s.length → valD (s.take j) ≤ 922337203685477580) ∧ v = IntKind.i64.wrap (valD s) → ∀ H : Hp, evF (pgL fx) n_ref11_number [str s] H = some (.tup [i64 v, boo (numB s)], H) := by
    intro v hv H
    refine evF_wp t_ref11_number rfl rfl ?_ H
    refine wp_loop (α := Nat) (fun i => s.length - i) (fun i => [(0, str s), (4, .d (.int .u64 (valD (s.take i)))), (5, i64 i)]) (fun _ => []) (fun i => i ≤ s.length ∧ ∀ j, j < i → valD (s.take j) ≤ 922337203685477580) ?_ 0 ⟨by omega, by omega⟩
    rintro i ⟨hi, hall⟩
    refine And.intro (fun hl => ?_) (fun hl => ?_)
    · replace hl := of_decide_eq_true hl
      have hlt : i < s.length := by omega
      refine And.intro (fun h => ?_) (fun h => ?_)
      · replace h := of_decide_eq_true h
        have h1 := valD_take hlt
        have h2 := valD_ge (s := s) (i + 1)
        have hb : numB s = false := by rw [hnb]; simp; omega
        have hv0 : v = 0 := by
          rcases hv with ⟨_, e⟩ | ⟨e, _⟩
          · exact e
          · have := e i hlt; omega
        show _ = _
        rw [hb, hv0]; rfl
      · replace h := of_decide_eq_false h
        refine idx_of hlt ?_
        obtain ⟨d1, d2⟩ := hdig i hlt
        have h1 := valD_take hlt
        have hdg : dig s[i] = s[i].toNat - 48 := rfl
        refine ⟨i + 1, ⟨by omega, fun j hj => ?_⟩, by omega, ?_, rfl⟩
        · by_cases e : j = i
          · subst e; omega
          · exact hall j (by omega)
        · rw [i64w (by omega), u64w (n := (valD (s.take i) : Int) * 10) (by omega), u8w (by omega), u64w (n := (s[i].toNat : Int) - 48) (by omega), u64w (by omega), h1, hdg]
          have e9 : ((valD (s.take i) : Int) * 10 + ((s[i].toNat : Int) - 48)) = ((valD (s.take i) * 10 + (s[i].toNat - 48) : Nat) : Int) := by omega
          rw [e9]; rfl
    · replace hl := of_decide_eq_false hl
      have hi' : i = s.length := by omega
      subst hi'
      rw [List.take_length]
      have hv1 : v = IntKind.i64.wrap (valD s) := by
        rcases hv with ⟨⟨j, h1, h2⟩, _⟩ | ⟨_, e⟩
        · have := hall j h1; omega
        · exact e
      show _ = _
      have eb : decide ((valD s : Int) ≤ 9223372036854775807) = decide (valD s ≤ 9223372036854775807) := by simp only [decide_eq_decide]; omega
      rw [hv1, hnb, ← eb]
      rfl
  by_cases hx : ∃ j, j < s.length ∧ 922337203685477580 < valD (s.take j)
  · refine ⟨0, fun h => ?_, key 0 (.inl ⟨hx, rfl⟩)⟩
    obtain ⟨j, h1, h2⟩ := hx
    have h3 := valD_take h1
    have h4 := valD_ge (s := s) (j + 1)
    rw [hnb] at h; simp at h; omega
  · refine ⟨IntKind.i64.wrap (valD s), fun h => ?_, key _ (.inr ⟨fun j hj => Nat.le_of_not_lt fun h => hx ⟨j, hj, h⟩, rfl⟩)⟩
    rw [hnb] at h; simp at h
    exact i64w (by omega)
/-- What a function of the document tells: a token and a diagnosis. -/
def numbR (s : List UInt8) (a : Nat) : V :=
  if numB ((s.drop a).take (runL (s.drop a))) then .tup [.d (tkD 3 ((s.drop a).take (runL (s.drop a))) (valD ((s.drop a).take (runL (s.drop a)))) a (a + runL (s.drop a) : Nat)), .d (dgD 0 0 0)]
  else .tup [.d (tkD 0 [] 0 0 0), .d (dgD 112 a (a + runL (s.drop a) : Nat))]
theorem mid_eq (s : List UInt8) (a n : Nat) : List.drop (Int.toNat (a : Int)) (List.take (Int.toNat ((a + n : Nat) : Int)) s) = (s.drop a).take n := by
  simp only [Int.toNat_natCast]
  rw [List.drop_take]; congr 1; omega
theorem numbered_ev (s : List UInt8) (hs : s.length ≤ maxLen) (a : Nat) (ha : a ≤ s.length) : evF (pgL fx) n_ref11_numbered [str s, i64 a] H = some (numbR s a, H) := by
  have hm : s.length ≤ 9223372036854775807 := hs
  have hrl := runL_le (s.drop a)
  rw [List.length_drop] at hrl
  refine evF_wp t_ref11_numbered rfl rfl ?_ H
  refine Exists.intro _ (Exists.intro _ (And.intro (rrun_ev _ _ _ ha hs) ?_))
  generalize hn : runL (s.drop a) = n at *
  refine wp_loop (α := Nat) (fun i => a + n - i) (fun i => [(0, str s), (1, i64 a), (4, .ptr 0 0), (5, .ptr 1 0), (6, i64 (a + n : Nat)), (7, i64 i)]) (fun _ => [.box [.d (.int .i64 0), .d (.str []), .d (.int .i64 0), .d (.int .i64 0), .d (.int .i64 0)], .box [.d (.int .i64 0), .d (.int .i64 0), .d (.int .i64 0)]]) (fun i => a ≤ i ∧ i ≤ a + n ∧ ((s.drop a).take (i - a)).all isD = true) ?_ a ⟨by omega, by omega, by simp⟩
  rintro i ⟨h1, h2, hall⟩
  refine And.intro (fun hl => ?_) (fun hl => ?_)
  · replace hl := of_decide_eq_true hl
    have hlt : i < s.length := by omega
    have hget : (s.drop a)[i - a]? = some s[i] := by rw [List.getElem?_drop, show a + (i - a) = i by omega, List.getElem?_eq_getElem hlt]
    refine idx_of hlt ?_
    refine Exists.intro _ (Exists.intro _ (And.intro (rdigit_ev _ _) ?_))
    refine And.intro (fun h => ?_) (fun h => ?_)
    · refine Exists.intro _ (Exists.intro _ (And.intro (diag_ev _ _ _ _) ?_))
      have hb : numB ((s.drop a).take n) = false := by
        cases hb : numB ((s.drop a).take n) with
        | false => rfl
        | true =>
          simp only [numB, Bool.and_eq_true, List.all_eq_true] at hb
          have := hb.1 s[i] (List.mem_iff_getElem?.2 ⟨i - a, by rw [List.getElem?_take, if_pos (by omega)]; exact hget⟩)
          rw [this] at h; cases h
      show _ = _
      simp only [oneOf, numbR, hn, hb]; rfl
    · have hD : isD s[i] = true := by simpa using h
      refine ⟨i + 1, ⟨by omega, by omega, ?_⟩, by omega, ?_, rfl⟩
      · rw [show i + 1 - a = (i - a) + 1 by omega, List.take_add_one, hget, List.all_append, hall]
        simp [hD]
      · rw [i64w (by omega)]; rfl
  · replace hl := of_decide_eq_false hl
    have hi : i - a = n := by omega
    rw [hi] at hall
    refine And.intro (by omega) ?_
    refine And.intro (by omega) ?_
    refine And.intro ⟨by omega, by omega⟩ ?_
    rw [mid_eq]
    obtain ⟨v, hv, hev⟩ := rnumber_ev (fx := fx) ((s.drop a).take n) (by rw [List.length_take, List.length_drop]; unfold maxLen; omega) hall
    refine Exists.intro _ (Exists.intro _ (And.intro (hev _) ?_))
    refine And.intro (fun h => ?_) (fun h => ?_)
    · refine Exists.intro _ (Exists.intro _ (And.intro (diag_ev _ _ _ _) ?_))
      have hb : numB ((s.drop a).take n) = false := by simpa using h
      show _ = _
      simp only [oneOf, numbR, hn, hb]; rfl
    · have hb : numB ((s.drop a).take n) = true := by simpa using h
      refine And.intro (by omega) ?_
      refine And.intro (by omega) ?_
      refine And.intro ⟨by omega, by omega⟩ ?_
      rw [mid_eq]
      show _ = _
      simp only [oneOf, numbR, hn, hb, hv hb]; rfl
def namR (s : List UInt8) (a : Nat) : V :=
  if 64 < runL (s.drop a) then .tup [.d (tkD 0 [] 0 0 0), .d (dgD 2 a (a + runL (s.drop a) : Nat))]
  else .tup [.d (tkD (if wordB ((s.drop a).take (runL (s.drop a))) then 2 else 1) ((s.drop a).take (runL (s.drop a))) 0 a (a + runL (s.drop a) : Nat)), .d (dgD 0 0 0)]
theorem named_ev (s : List UInt8) (hs : s.length ≤ maxLen) (a : Nat) (ha : a ≤ s.length) : evF (pgL fx) n_ref11_named [str s, i64 a] H = some (namR s a, H) := by
  have hm : s.length ≤ 9223372036854775807 := hs
  have hrl := runL_le (s.drop a)
  rw [List.length_drop] at hrl
  refine evF_wp t_ref11_named rfl rfl ?_ H
  refine Exists.intro _ (Exists.intro _ (And.intro (rrun_ev _ _ _ ha hs) ?_))
  generalize hn : runL (s.drop a) = n at *
  have ew : IntKind.i64.wrap (((a + n : Nat) : Int) - (a : Int)) = (n : Int) := by rw [i64w (by omega)]; omega
  refine And.intro (fun h => ?_) (fun h => ?_)
  · replace h := of_decide_eq_true h
    rw [ew] at h
    refine Exists.intro _ (Exists.intro _ (And.intro (diag_ev _ _ _ _) ?_))
    show _ = _
    simp only [oneOf, namR, hn, if_pos (show 64 < n by omega)]; rfl
  · replace h := of_decide_eq_false h
    rw [ew] at h
    refine And.intro (by omega) ?_
    refine And.intro (by omega) ?_
    refine And.intro ⟨by omega, by omega⟩ ?_
    rw [mid_eq]
    refine Exists.intro _ (Exists.intro _ (And.intro (rword_ev _ _) ?_))
    refine And.intro (fun h5 => ?_) (fun h5 => ?_)
    all_goals
      refine And.intro (by omega) ?_
      refine And.intro (by omega) ?_
      refine And.intro ⟨by omega, by omega⟩ ?_
      rw [mid_eq]
      show _ = _
      simp only [oneOf, namR, hn, if_neg (show ¬ 64 < n by omega), h5]; rfl
end
end Go.Vm.Lex
