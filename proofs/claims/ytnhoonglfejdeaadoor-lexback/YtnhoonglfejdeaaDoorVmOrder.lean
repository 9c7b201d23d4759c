import Derived.Test.YtnhoonglfejdeaaDoorVmRegSound
namespace Go.Vm

/-! What an operation must come behind. -/
theorem go_take : ∀ (ops : List Oper) (acc : List Nat), (befores.go ops acc).take acc.length = acc
  | [], acc => by simp [befores.go]
  | o :: r, acc => by
    rw [befores.go]
    have := go_take r (acc ++ [o.after.toList.foldl (fun s e => if Region.binds .any e then s ||| 2 ^ e.on ||| acc.getD e.on 0 else s) 0])
    have h2 := congrArg (·.take acc.length) this
    simp only [List.length_append, List.length_cons, List.length_nil, List.take_take] at h2
    rw [Nat.min_eq_left (by omega)] at h2
    rw [h2]
    simp

theorem go_get : ∀ (ops : List Oper) (acc : List Nat) (i : Nat) (o : Oper), ops[i]? = some o →
    (befores.go ops acc)[acc.length + i]? = some (o.after.toList.foldl (fun s e => if Region.binds .any e then s ||| 2 ^ e.on ||| ((befores.go ops acc).take (acc.length + i)).getD e.on 0 else s) 0)
  | [], acc, i, o, h => by simp at h
  | p :: r, acc, 0, o, h => by
    simp only [List.getElem?_cons_zero, Option.some.injEq] at h
    subst h
    simp only [Nat.add_zero]
    rw [go_take]
    rw [befores.go]
    have := go_take r (acc ++ [p.after.toList.foldl (fun s e => if Region.binds .any e then s ||| 2 ^ e.on ||| acc.getD e.on 0 else s) 0])
    have h2 := congrArg (·[acc.length]?) this
    simpa [List.getElem?_take] using h2
  | p :: r, acc, i + 1, o, h => by
    simp only [List.getElem?_cons_succ] at h
    rw [befores.go]
    have := go_get r (acc ++ [p.after.toList.foldl (fun s e => if Region.binds .any e then s ||| 2 ^ e.on ||| acc.getD e.on 0 else s) 0]) i o h
    simp only [List.length_append, List.length_cons, List.length_nil] at this
    rw [show acc.length + (0 + 1) + i = acc.length + (i + 1) by omega] at this
    exact this

theorem fold_bit {A : Nat → Nat} {k : Nat} : ∀ (l : List Edge) (s : Nat), (l.foldl (fun s e => if Region.binds .any e then s ||| 2 ^ e.on ||| A e.on else s) s).testBit k = true → s.testBit k = true ∨ ∃ e ∈ l, Region.binds .any e = true ∧ (k = e.on ∨ (A e.on).testBit k = true)
  | [], s, h => .inl h
  | e :: l, s, h => by
    simp only [List.foldl_cons] at h
    rcases fold_bit l _ h with h | ⟨e', h1, h2⟩
    · split at h
      · rename_i hb
        simp only [Nat.testBit_or, Bool.or_eq_true, Nat.testBit_two_pow, decide_eq_true_eq] at h
        rcases h with (h | h) | h
        · exact .inl h
        · exact .inr ⟨e, by simp, hb, .inl h.symm⟩
        · exact .inr ⟨e, by simp, hb, .inr h⟩
      · exact .inl h
    · exact .inr ⟨e', by simp [h1], h2⟩

/-- The listed ones bear with them all that they come behind. -/
theorem before_listed {ops : Array Oper} {L : Nat → Bool} (hback : ∀ (i : Nat) (o : Oper), ops[i]? = some o → ∀ e ∈ o.after, Region.binds .any e = true → e.on < i) (hcl : ∀ (i : Nat) (o : Oper), ops[i]? = some o → L i = true → ∀ e ∈ o.after, Region.binds .any e = true → L e.on = true) :
    ∀ (i : Nat) (o : Oper), ops[i]? = some o → (∀ e ∈ o.after, Region.binds .any e = true → L e.on = true) → ∀ k, ((befores ops.toList).getD i 0).testBit k = true → L k = true := by
  intro i
  induction i using Nat.strongRecOn with
  | _ i ih =>
    intro o ho hl k hk
    have hg := go_get ops.toList [] i o (by simpa using ho)
    simp only [List.length_nil, Nat.zero_add] at hg
    rw [List.getD_eq_getElem?_getD, befores, hg] at hk
    simp only [Option.getD_some] at hk
    rcases fold_bit (A := fun j => (List.take i (befores.go ops.toList [])).getD j 0) _ _ hk with h | ⟨e, he, hb, h⟩
    · simp at h
    · have he' : e ∈ o.after := by simpa using he
      have hlt := hback i o ho e he' hb
      rcases h with rfl | h
      · exact hl e he' hb
      · have hin := (Array.getElem?_eq_some_iff.1 ho).1
        have hon : ops[e.on]? = some ops[e.on] := Array.getElem?_eq_getElem (by omega)
        refine ih e.on hlt _ hon (hcl e.on _ hon (hl e he' hb)) k ?_
        rw [List.getD_eq_getElem?_getD, List.getElem?_take, if_pos hlt] at h
        rw [List.getD_eq_getElem?_getD]
        exact h

/-! Counting what is not listed yet. -/
def cnt (L : Nat → Bool) : Nat → Nat
  | 0 => 0
  | n + 1 => cnt L n + (if L n then 0 else 1)

theorem cnt_congr {L L' : Nat → Bool} : ∀ n, (∀ i, i < n → L i = L' i) → cnt L n = cnt L' n
  | 0, _ => rfl
  | n + 1, h => by simp only [cnt]; rw [cnt_congr n fun i hi => h i (by omega), h n (by omega)]

theorem cnt_set {L L' : Nat → Bool} {i : Nat} (h0 : L i = false) (h1 : L' i = true) (ho : ∀ k, k ≠ i → L' k = L k) : ∀ n, i < n → cnt L' n + 1 = cnt L n
  | 0, h => by omega
  | n + 1, h => by
    simp only [cnt]
    by_cases hi : i = n
    · subst hi
      rw [h0, h1, cnt_congr i fun k hk => ho k (by omega)]
      simp
    · have := cnt_set h0 h1 ho n (by omega)
      rw [ho n (Ne.symm hi)]
      omega

theorem cnt_zero {L : Nat → Bool} : ∀ n, cnt L n = 0 → ∀ i, i < n → L i = true
  | 0, _, i, h => by omega
  | n + 1, h, i, hi => by
    simp only [cnt] at h
    by_cases hin : i = n
    · subst hin
      by_cases hl : L i = true
      · exact hl
      · rw [if_neg hl] at h; omega
    · exact cnt_zero n (by omega) i (by omega)

theorem cnt_none {L : Nat → Bool} : ∀ n, (∀ i, i < n → L i = false) → cnt L n = n
  | 0, _ => rfl
  | n + 1, h => by simp only [cnt]; rw [cnt_none n fun i hi => h i (by omega), h n (by omega)]; rfl
end Go.Vm
