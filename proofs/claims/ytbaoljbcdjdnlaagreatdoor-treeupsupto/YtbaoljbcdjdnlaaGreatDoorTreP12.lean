import Derived.Test.YtbaoljbcdjdnlaaGreatDoorTreP10
import Derived.Lib.IndexLaws
/- The document's word for a right tree, and that it says the same. -/
set_option linter.unusedSimpArgs false
namespace Go.Vm.Tp
open Go.Vm.Lex
def lettR (c : UInt8) (k : Int) : Bool :=
  if c = 84 then isTy k
  else if c = 83 then isSt k
  else if c = 69 then isEx k
  else if c = 80 then isPa k
  else if c = 66 then decide (k = 20)
  else if c = 73 then decide (k = 2 ∨ k = 3 ∨ k = 4)
  else if c = 70 then decide (k = 5)
  else if c = 86 then decide (k = 6)
  else if c = 77 then decide (k = 7)
  else if c = 65 then decide (k = 47)
  else if c = 74 then decide (k = 36)
  else decide (k = 20 ∨ k = 45)
def formsR (k : Int) : List (List UInt8) :=
  if k = 1 then [[42, 73]]
  else if k = 2 then [[102, 110]]
  else if k = 3 then [[42, 70]]
  else if k = 4 then [[42, 86]]
  else if k = 5 ∨ k = 7 ∨ k = 14 ∨ k = 15 ∨ k = 16 then [[84]]
  else if k = 6 then [[], [84]]
  else if k = 20 then [[98, 108, 111, 99, 107]]
  else if k = 21 then [[69], [84, 69]]
  else if k = 22 ∨ k = 36 ∨ k = 41 ∨ k = 39 ∨ k = 40 ∨ k = 42 ∨ k = 44 ∨ k = 43 then [[69]]
  else if k = 23 ∨ k = 38 then [[69, 69]]
  else if k = 24 then [[69, 66]]
  else if k = 25 ∨ k = 37 then [[], [69]]
  else if k = 34 then [[42, 69]]
  else if k = 35 then [[42, 74]]
  else if k = 45 then [[69, 66], [69, 66, 88]]
  else if k = 46 then [[69, 42, 65]]
  else if k = 47 then [[80, 69]]
  else if k = 54 then [[], [80]]
  else [[]]
/-- Letters of kids; a last one behind a star stands for any number. -/
def goR : List UInt8 → List Int → Bool
  | [], l => decide (l = [])
  | 42 :: c :: _, l => l.all (lettR c)
  | c :: s, l => match l with | [] => false | a :: r => lettR c a && goR s r
def fnR (v : Int) (ks : List Int) : Bool := decide (2 ≤ ks.length) && decide (v = ks.length - 2) && isTy (ks.getD (ks.length - 2) 0) && decide (ks.getD (ks.length - 1) 0 = 20) && (ks.take (ks.length - 2)).all (lettR 77)
def blockR (v : Int) (ks : List Int) : Bool := !(decide (v = 1) && (decide (ks.length = 0) || !isEx (ks.getD (ks.length - 1) 0))) && (ks.take (ks.length - v.toNat)).all (lettR 83)
def fitsR (v : Int) (ks : List Int) (f : List UInt8) : Bool := if f = [102, 110] then fnR v ks else if f = [98, 108, 111, 99, 107] then blockR v ks else goR f ks
def countR (k v : Int) : Bool :=
  if k = 2 then true
  else if k = 7 ∨ k = 20 ∨ k = 21 ∨ k = 31 ∨ k = 53 ∨ k = 43 then decide (v = 0) || decide (v = 1)
  else if k = 30 then decide (0 ≤ v)
  else if k = 52 then !decide (v = -9223372036854775808)
  else decide (v = 0)
theorem count_num {k v : Int} (hv : I64 v) (p : Int) : numB k v p = if k = 2 then decide (v = p) else countR k v := by
  unfold numB countR
  by_cases h : k = 2
  · rw [if_pos h, if_pos h]
  rw [if_neg h, if_neg h, if_neg h]
  by_cases h5 : k = 52
  · subst h5
    simp only [I64] at hv
    simp
    by_cases e : v = -9223372036854775808
    · simp [e]
    · rw [decide_eq_false e, decide_eq_true (by omega)]; rfl
  · simp only [h5, if_false]
theorem go_one (c : UInt8) (hc : c ≠ 42) (s : List UInt8) (l : List Int) : goR (c :: s) l = match l with | [] => false | a :: r => lettR c a && goR s r := by
  cases s with
  | nil => cases l <;> simp only [goR]
  | cons d s => cases l <;> simp [goR, hc]
theorem fn_eq (v : Int) (ks : List Int) : fnR v ks = (decide (v = params ks) && fitsB 2 v ks) := by
  rw [Bool.eq_iff_iff]
  constructor
  · intro h
    unfold fnR at h
    simp only [Bool.and_eq_true, decide_eq_true_eq] at h
    obtain ⟨⟨⟨⟨h1, h2⟩, h3⟩, h4⟩, h5⟩ := h
    have hd : ks.drop (ks.length - 2) = [ks.getD (ks.length - 2) 0, ks.getD (ks.length - 1) 0] := by
      have l1 : ks.length - 2 < ks.length := by omega
      have l2 : ks.length - 2 + 1 < ks.length := by omega
      rw [List.drop_eq_getElem_cons l1, List.drop_eq_getElem_cons l2, List.drop_of_length_le (by omega)]
      have e : ks.length - 2 + 1 = ks.length - 1 := by omega
      simp only [e, List.getD_eq_getElem?_getD, List.getElem?_eq_getElem l1, Option.getD_some]
      rw [List.getElem?_eq_getElem (by omega : ks.length - 1 < ks.length)]; rfl
    have h7 : ∀ k ∈ ks.take (ks.length - 2), k = 7 := fun k hk => by
      have := List.all_eq_true.1 h5 k hk
      simpa [lettR] using this
    have hp : params ks = ((ks.length - 2 : Nat) : Int) := by
      conv => lhs; rw [← List.take_append_drop (ks.length - 2) ks, hd]
      rw [params_fn h7 h3 h4, List.length_take]; omega
    rw [Bool.and_eq_true, decide_eq_true_eq, hp]
    refine ⟨by omega, ?_⟩
    have e : fitsB 2 v ks = (decide (([] : List UInt8).length + ([116, 98] : List UInt8).length ≤ ks.length) && (kidsB [] (ks.take ([] : List UInt8).length) && ((ks.take (ks.length - ([116, 98] : List UInt8).length)).drop ([] : List UInt8).length).all (lett 113) && kidsB [116, 98] (ks.drop (ks.length - ([116, 98] : List UInt8).length)))) := rfl
    rw [e]
    simp only [Bool.and_eq_true, decide_eq_true_eq, List.length_nil, List.length_cons, List.drop_zero, Nat.zero_add, hd]
    refine ⟨by omega, ⟨⟨rfl, ?_⟩, ?_⟩⟩
    · rw [List.all_eq_true]; intro k hk; rw [h7 k hk]; rfl
    · rw [h4]; simp only [kidsB, lett]; rw [show isTy (ks.getD (ks.length - 2) 0) = true from h3]; simp
  · intro h
    simp only [Bool.and_eq_true, decide_eq_true_eq] at h
    obtain ⟨h1, h2⟩ := h
    obtain ⟨ps, a, b, rfl, h3, h4, h5⟩ := fn_parts h2
    rw [params_fn h3 h4 h5] at h1
    unfold fnR
    have hl : (ps ++ [a, b]).length = ps.length + 2 := by simp
    rw [hl]
    simp only [Bool.and_eq_true, decide_eq_true_eq]
    refine ⟨⟨⟨⟨by omega, by omega⟩, ?_⟩, ?_⟩, ?_⟩
    · simpa using h4
    · simpa using h5
    · rw [show ps.length + 2 - 2 = ps.length by omega, List.take_left', List.all_eq_true]
      · intro k hk; rw [h3 k hk]; rfl
      · rfl
theorem lettR_S (k : Int) : lettR 83 k = isSt k := by simp [lettR]
theorem lett_s (k : Int) : lett 115 k = isSt k := by simp [lett]
theorem block_eq (v : Int) (ks : List Int) (hv : v = 0 ∨ v = 1) : blockR v ks = fitsB 20 v ks := by
  rcases hv with rfl | rfl
  · have e : fitsB 20 0 ks = (decide (([] : List UInt8).length + ([] : List UInt8).length ≤ ks.length) && (kidsB [] (ks.take ([] : List UInt8).length) && ((ks.take (ks.length - ([] : List UInt8).length)).drop ([] : List UInt8).length).all (lett 115) && kidsB [] (ks.drop (ks.length - ([] : List UInt8).length)))) := rfl
    rw [e]
    unfold blockR
    have e3 : (lettR 83) = lett 115 := by funext k; rw [lettR_S, lett_s]
    rw [e3]
    simp [kidsB]
  · have e : fitsB 20 1 ks = (decide (([] : List UInt8).length + ([101] : List UInt8).length ≤ ks.length) && (kidsB [] (ks.take ([] : List UInt8).length) && ((ks.take (ks.length - ([101] : List UInt8).length)).drop ([] : List UInt8).length).all (lett 115) && kidsB [101] (ks.drop (ks.length - ([101] : List UInt8).length)))) := rfl
    rw [e]
    unfold blockR
    rcases Nat.eq_zero_or_pos ks.length with h0 | h0
    · have : ks = [] := List.length_eq_zero_iff.1 h0
      subst this; rfl
    have l1 : ks.length - 1 < ks.length := by omega
    have hd : ks.drop (ks.length - 1) = [ks.getD (ks.length - 1) 0] := by
      rw [List.drop_eq_getElem_cons l1, List.drop_of_length_le (by omega)]
      simp only [List.getD_eq_getElem?_getD, List.getElem?_eq_getElem l1, Option.getD_some]
    simp only [List.length_nil, List.length_cons, Nat.zero_add, List.drop_zero, hd]
    have e2 : ∀ a, kidsB [101] [a] = isEx a := fun a => by simp [kidsB, lett]
    have e3 : (lettR 83) = lett 115 := by funext k; rw [lettR_S, lett_s]
    rw [e2, e3]
    have n0 : ¬ ks.length = 0 := by omega
    simp only [n0, decide_false, decide_true, Bool.true_and, Bool.false_or, Bool.not_not, decide_eq_true (by omega : 1 ≤ ks.length), show (1 : Int).toNat = 1 from rfl, List.take_zero]
    rw [show kidsB [] ([] : List Int) = true from rfl]
    cases isEx (ks.getD (ks.length - 1) 0) <;> simp
theorem anyR {v : Int} {ks : List Int} : ∀ k : Int, (k = 2 → v = params ks) → (k = 20 → v = 0 ∨ v = 1) → (formsR k).any (fitsR v ks) = fitsB k v ks := by
  intro k h2 h20
  have cT : ∀ a, lettR 84 a = lett 116 a := fun a => by simp [lettR, lett]
  have cE : ∀ a, lettR 69 a = lett 101 a := fun a => by simp [lettR, lett]
  have cP : ∀ a, lettR 80 a = lett 112 a := fun a => by simp [lettR, lett]
  have cB : ∀ a, lettR 66 a = lett 98 a := fun a => by simp [lettR, lett]
  have cX : ∀ a, lettR 88 a = lett 111 a := fun a => by simp [lettR, lett]
  have cI : ∀ a, lettR 73 a = lett 105 a := fun a => by simp [lettR, lett]
  have cF : ∀ a, lettR 70 a = lett 102 a := fun a => by simp [lettR, lett]
  have cV : ∀ a, lettR 86 a = lett 118 a := fun a => by simp [lettR, lett]
  have cA : ∀ a, lettR 65 a = lett 97 a := fun a => by simp [lettR, lett]
  have cJ : ∀ a, lettR 74 a = lett 110 a := fun a => by simp [lettR, lett]
  have star : ∀ (c d : UInt8) (m : Bool), (∀ a, lettR c a = lett d a) → goR [42, c] ks = (decide (0 + 0 ≤ ks.length) && (kidsB [] (ks.take 0) && ((ks.take (ks.length - 0)).drop 0).all (lett d) && kidsB [] (ks.drop (ks.length - 0)))) := by
    intro c d _ h
    simp [goR, kidsB, List.drop_length]
    congr 1; funext a; exact h a
  by_cases k2 : k = 2
  · subst k2
    have h2 := h2 rfl
    show (fitsR v ks [102, 110] || false) = _
    rw [Bool.or_false, show fitsR v ks [102, 110] = fnR v ks from rfl, fn_eq, decide_eq_true h2, Bool.true_and]
  by_cases k20 : k = 20
  · subst k20
    show (fitsR v ks [98, 108, 111, 99, 107] || false) = _
    rw [Bool.or_false, show fitsR v ks [98, 108, 111, 99, 107] = blockR v ks from rfl, block_eq v ks (h20 rfl)]
  by_cases k1 : k = 1
  · subst k1
    show (fitsR v ks [42, 73] || false) = _
    rw [Bool.or_false]
    exact star 73 105 true cI
  by_cases k3 : k = 3
  · subst k3
    show (fitsR v ks [42, 70] || false) = _
    rw [Bool.or_false]
    exact star 70 102 true cF
  by_cases k4 : k = 4
  · subst k4
    show (fitsR v ks [42, 86] || false) = _
    rw [Bool.or_false]
    exact star 86 118 true cV
  by_cases k34 : k = 34
  · subst k34
    show (fitsR v ks [42, 69] || false) = _
    rw [Bool.or_false]
    exact star 69 101 true cE
  by_cases k35 : k = 35
  · subst k35
    show (fitsR v ks [42, 74] || false) = _
    rw [Bool.or_false]
    exact star 74 110 true cJ
  by_cases k5 : k = 5
  · subst k5
    match ks with
    | [] => rfl
    | [a] => simp [formsR, fitsR, goR, fitsB, shapeP, kidsB, cT, cE, cP, cB, cX]
    | [a, b] => simp [formsR, fitsR, goR, fitsB, shapeP, kidsB, cT, cE, cP, cB, cX]
    | [a, b, c] => simp [formsR, fitsR, goR, fitsB, shapeP, kidsB, cT, cE, cP, cB, cX]
    | a :: b :: c :: d :: r => simp [formsR, fitsR, goR, fitsB, shapeP, kidsB, cT, cE, cP, cB, cX]
  by_cases k7 : k = 7
  · subst k7
    match ks with
    | [] => rfl
    | [a] => simp [formsR, fitsR, goR, fitsB, shapeP, kidsB, cT, cE, cP, cB, cX]
    | [a, b] => simp [formsR, fitsR, goR, fitsB, shapeP, kidsB, cT, cE, cP, cB, cX]
    | [a, b, c] => simp [formsR, fitsR, goR, fitsB, shapeP, kidsB, cT, cE, cP, cB, cX]
    | a :: b :: c :: d :: r => simp [formsR, fitsR, goR, fitsB, shapeP, kidsB, cT, cE, cP, cB, cX]
  by_cases k14 : k = 14
  · subst k14
    match ks with
    | [] => rfl
    | [a] => simp [formsR, fitsR, goR, fitsB, shapeP, kidsB, cT, cE, cP, cB, cX]
    | [a, b] => simp [formsR, fitsR, goR, fitsB, shapeP, kidsB, cT, cE, cP, cB, cX]
    | [a, b, c] => simp [formsR, fitsR, goR, fitsB, shapeP, kidsB, cT, cE, cP, cB, cX]
    | a :: b :: c :: d :: r => simp [formsR, fitsR, goR, fitsB, shapeP, kidsB, cT, cE, cP, cB, cX]
  by_cases k15 : k = 15
  · subst k15
    match ks with
    | [] => rfl
    | [a] => simp [formsR, fitsR, goR, fitsB, shapeP, kidsB, cT, cE, cP, cB, cX]
    | [a, b] => simp [formsR, fitsR, goR, fitsB, shapeP, kidsB, cT, cE, cP, cB, cX]
    | [a, b, c] => simp [formsR, fitsR, goR, fitsB, shapeP, kidsB, cT, cE, cP, cB, cX]
    | a :: b :: c :: d :: r => simp [formsR, fitsR, goR, fitsB, shapeP, kidsB, cT, cE, cP, cB, cX]
  by_cases k16 : k = 16
  · subst k16
    match ks with
    | [] => rfl
    | [a] => simp [formsR, fitsR, goR, fitsB, shapeP, kidsB, cT, cE, cP, cB, cX]
    | [a, b] => simp [formsR, fitsR, goR, fitsB, shapeP, kidsB, cT, cE, cP, cB, cX]
    | [a, b, c] => simp [formsR, fitsR, goR, fitsB, shapeP, kidsB, cT, cE, cP, cB, cX]
    | a :: b :: c :: d :: r => simp [formsR, fitsR, goR, fitsB, shapeP, kidsB, cT, cE, cP, cB, cX]
  by_cases k6 : k = 6
  · subst k6
    match ks with
    | [] => rfl
    | [a] => simp [formsR, fitsR, goR, fitsB, shapeP, kidsB, cT, cE, cP, cB, cX]
    | [a, b] => simp [formsR, fitsR, goR, fitsB, shapeP, kidsB, cT, cE, cP, cB, cX]
    | [a, b, c] => simp [formsR, fitsR, goR, fitsB, shapeP, kidsB, cT, cE, cP, cB, cX]
    | a :: b :: c :: d :: r => simp [formsR, fitsR, goR, fitsB, shapeP, kidsB, cT, cE, cP, cB, cX]
  by_cases k21 : k = 21
  · subst k21
    match ks with
    | [] => rfl
    | [a] => simp [formsR, fitsR, goR, fitsB, shapeP, kidsB, cT, cE, cP, cB, cX]
    | [a, b] => simp [formsR, fitsR, goR, fitsB, shapeP, kidsB, cT, cE, cP, cB, cX]
    | [a, b, c] => simp [formsR, fitsR, goR, fitsB, shapeP, kidsB, cT, cE, cP, cB, cX]
    | a :: b :: c :: d :: r => simp [formsR, fitsR, goR, fitsB, shapeP, kidsB, cT, cE, cP, cB, cX]
  by_cases k22 : k = 22
  · subst k22
    match ks with
    | [] => rfl
    | [a] => simp [formsR, fitsR, goR, fitsB, shapeP, kidsB, cT, cE, cP, cB, cX]
    | [a, b] => simp [formsR, fitsR, goR, fitsB, shapeP, kidsB, cT, cE, cP, cB, cX]
    | [a, b, c] => simp [formsR, fitsR, goR, fitsB, shapeP, kidsB, cT, cE, cP, cB, cX]
    | a :: b :: c :: d :: r => simp [formsR, fitsR, goR, fitsB, shapeP, kidsB, cT, cE, cP, cB, cX]
  by_cases k36 : k = 36
  · subst k36
    match ks with
    | [] => rfl
    | [a] => simp [formsR, fitsR, goR, fitsB, shapeP, kidsB, cT, cE, cP, cB, cX]
    | [a, b] => simp [formsR, fitsR, goR, fitsB, shapeP, kidsB, cT, cE, cP, cB, cX]
    | [a, b, c] => simp [formsR, fitsR, goR, fitsB, shapeP, kidsB, cT, cE, cP, cB, cX]
    | a :: b :: c :: d :: r => simp [formsR, fitsR, goR, fitsB, shapeP, kidsB, cT, cE, cP, cB, cX]
  by_cases k41 : k = 41
  · subst k41
    match ks with
    | [] => rfl
    | [a] => simp [formsR, fitsR, goR, fitsB, shapeP, kidsB, cT, cE, cP, cB, cX]
    | [a, b] => simp [formsR, fitsR, goR, fitsB, shapeP, kidsB, cT, cE, cP, cB, cX]
    | [a, b, c] => simp [formsR, fitsR, goR, fitsB, shapeP, kidsB, cT, cE, cP, cB, cX]
    | a :: b :: c :: d :: r => simp [formsR, fitsR, goR, fitsB, shapeP, kidsB, cT, cE, cP, cB, cX]
  by_cases k39 : k = 39
  · subst k39
    match ks with
    | [] => rfl
    | [a] => simp [formsR, fitsR, goR, fitsB, shapeP, kidsB, cT, cE, cP, cB, cX]
    | [a, b] => simp [formsR, fitsR, goR, fitsB, shapeP, kidsB, cT, cE, cP, cB, cX]
    | [a, b, c] => simp [formsR, fitsR, goR, fitsB, shapeP, kidsB, cT, cE, cP, cB, cX]
    | a :: b :: c :: d :: r => simp [formsR, fitsR, goR, fitsB, shapeP, kidsB, cT, cE, cP, cB, cX]
  by_cases k40 : k = 40
  · subst k40
    match ks with
    | [] => rfl
    | [a] => simp [formsR, fitsR, goR, fitsB, shapeP, kidsB, cT, cE, cP, cB, cX]
    | [a, b] => simp [formsR, fitsR, goR, fitsB, shapeP, kidsB, cT, cE, cP, cB, cX]
    | [a, b, c] => simp [formsR, fitsR, goR, fitsB, shapeP, kidsB, cT, cE, cP, cB, cX]
    | a :: b :: c :: d :: r => simp [formsR, fitsR, goR, fitsB, shapeP, kidsB, cT, cE, cP, cB, cX]
  by_cases k42 : k = 42
  · subst k42
    match ks with
    | [] => rfl
    | [a] => simp [formsR, fitsR, goR, fitsB, shapeP, kidsB, cT, cE, cP, cB, cX]
    | [a, b] => simp [formsR, fitsR, goR, fitsB, shapeP, kidsB, cT, cE, cP, cB, cX]
    | [a, b, c] => simp [formsR, fitsR, goR, fitsB, shapeP, kidsB, cT, cE, cP, cB, cX]
    | a :: b :: c :: d :: r => simp [formsR, fitsR, goR, fitsB, shapeP, kidsB, cT, cE, cP, cB, cX]
  by_cases k44 : k = 44
  · subst k44
    match ks with
    | [] => rfl
    | [a] => simp [formsR, fitsR, goR, fitsB, shapeP, kidsB, cT, cE, cP, cB, cX]
    | [a, b] => simp [formsR, fitsR, goR, fitsB, shapeP, kidsB, cT, cE, cP, cB, cX]
    | [a, b, c] => simp [formsR, fitsR, goR, fitsB, shapeP, kidsB, cT, cE, cP, cB, cX]
    | a :: b :: c :: d :: r => simp [formsR, fitsR, goR, fitsB, shapeP, kidsB, cT, cE, cP, cB, cX]
  by_cases k43 : k = 43
  · subst k43
    match ks with
    | [] => rfl
    | [a] => simp [formsR, fitsR, goR, fitsB, shapeP, kidsB, cT, cE, cP, cB, cX]
    | [a, b] => simp [formsR, fitsR, goR, fitsB, shapeP, kidsB, cT, cE, cP, cB, cX]
    | [a, b, c] => simp [formsR, fitsR, goR, fitsB, shapeP, kidsB, cT, cE, cP, cB, cX]
    | a :: b :: c :: d :: r => simp [formsR, fitsR, goR, fitsB, shapeP, kidsB, cT, cE, cP, cB, cX]
  by_cases k23 : k = 23
  · subst k23
    match ks with
    | [] => rfl
    | [a] => simp [formsR, fitsR, goR, fitsB, shapeP, kidsB, cT, cE, cP, cB, cX]
    | [a, b] => simp [formsR, fitsR, goR, fitsB, shapeP, kidsB, cT, cE, cP, cB, cX]
    | [a, b, c] => simp [formsR, fitsR, goR, fitsB, shapeP, kidsB, cT, cE, cP, cB, cX]
    | a :: b :: c :: d :: r => simp [formsR, fitsR, goR, fitsB, shapeP, kidsB, cT, cE, cP, cB, cX]
  by_cases k38 : k = 38
  · subst k38
    match ks with
    | [] => rfl
    | [a] => simp [formsR, fitsR, goR, fitsB, shapeP, kidsB, cT, cE, cP, cB, cX]
    | [a, b] => simp [formsR, fitsR, goR, fitsB, shapeP, kidsB, cT, cE, cP, cB, cX]
    | [a, b, c] => simp [formsR, fitsR, goR, fitsB, shapeP, kidsB, cT, cE, cP, cB, cX]
    | a :: b :: c :: d :: r => simp [formsR, fitsR, goR, fitsB, shapeP, kidsB, cT, cE, cP, cB, cX]
  by_cases k24 : k = 24
  · subst k24
    match ks with
    | [] => rfl
    | [a] => simp [formsR, fitsR, goR, fitsB, shapeP, kidsB, cT, cE, cP, cB, cX]
    | [a, b] => simp [formsR, fitsR, goR, fitsB, shapeP, kidsB, cT, cE, cP, cB, cX]
    | [a, b, c] => simp [formsR, fitsR, goR, fitsB, shapeP, kidsB, cT, cE, cP, cB, cX]
    | a :: b :: c :: d :: r => simp [formsR, fitsR, goR, fitsB, shapeP, kidsB, cT, cE, cP, cB, cX]
  by_cases k25 : k = 25
  · subst k25
    match ks with
    | [] => rfl
    | [a] => simp [formsR, fitsR, goR, fitsB, shapeP, kidsB, cT, cE, cP, cB, cX]
    | [a, b] => simp [formsR, fitsR, goR, fitsB, shapeP, kidsB, cT, cE, cP, cB, cX]
    | [a, b, c] => simp [formsR, fitsR, goR, fitsB, shapeP, kidsB, cT, cE, cP, cB, cX]
    | a :: b :: c :: d :: r => simp [formsR, fitsR, goR, fitsB, shapeP, kidsB, cT, cE, cP, cB, cX]
  by_cases k37 : k = 37
  · subst k37
    match ks with
    | [] => rfl
    | [a] => simp [formsR, fitsR, goR, fitsB, shapeP, kidsB, cT, cE, cP, cB, cX]
    | [a, b] => simp [formsR, fitsR, goR, fitsB, shapeP, kidsB, cT, cE, cP, cB, cX]
    | [a, b, c] => simp [formsR, fitsR, goR, fitsB, shapeP, kidsB, cT, cE, cP, cB, cX]
    | a :: b :: c :: d :: r => simp [formsR, fitsR, goR, fitsB, shapeP, kidsB, cT, cE, cP, cB, cX]
  by_cases k45 : k = 45
  · subst k45
    match ks with
    | [] => rfl
    | [a] => simp [formsR, fitsR, goR, fitsB, shapeP, kidsB, cT, cE, cP, cB, cX]
    | [a, b] => simp [formsR, fitsR, goR, fitsB, shapeP, kidsB, cT, cE, cP, cB, cX]
    | [a, b, c] => simp [formsR, fitsR, goR, fitsB, shapeP, kidsB, cT, cE, cP, cB, cX]
    | a :: b :: c :: d :: r => simp [formsR, fitsR, goR, fitsB, shapeP, kidsB, cT, cE, cP, cB, cX]
  by_cases k47 : k = 47
  · subst k47
    match ks with
    | [] => rfl
    | [a] => simp [formsR, fitsR, goR, fitsB, shapeP, kidsB, cT, cE, cP, cB, cX]
    | [a, b] => simp [formsR, fitsR, goR, fitsB, shapeP, kidsB, cT, cE, cP, cB, cX]
    | [a, b, c] => simp [formsR, fitsR, goR, fitsB, shapeP, kidsB, cT, cE, cP, cB, cX]
    | a :: b :: c :: d :: r => simp [formsR, fitsR, goR, fitsB, shapeP, kidsB, cT, cE, cP, cB, cX]
  by_cases k54 : k = 54
  · subst k54
    match ks with
    | [] => rfl
    | [a] => simp [formsR, fitsR, goR, fitsB, shapeP, kidsB, cT, cE, cP, cB, cX]
    | [a, b] => simp [formsR, fitsR, goR, fitsB, shapeP, kidsB, cT, cE, cP, cB, cX]
    | [a, b, c] => simp [formsR, fitsR, goR, fitsB, shapeP, kidsB, cT, cE, cP, cB, cX]
    | a :: b :: c :: d :: r => simp [formsR, fitsR, goR, fitsB, shapeP, kidsB, cT, cE, cP, cB, cX]
  by_cases k46 : k = 46
  · subst k46
    show (fitsR v ks [69, 42, 65] || false) = (decide (1 + 0 ≤ ks.length) && (kidsB [101] (ks.take 1) && ((ks.take (ks.length - 0)).drop 1).all (lett 97) && kidsB [] (ks.drop (ks.length - 0))))
    rw [Bool.or_false]
    cases ks with
    | nil => rfl
    | cons a r =>
      show (lettR 69 a && r.all (lettR 65)) = _
      have e : lettR 65 = lett 97 := by funext a; exact cA a
      rw [cE, e]
      simp [kidsB]
  have e1 : formsR k = [[]] := by unfold formsR; simp only [k1, k3, k4, k34, k35, k5, k7, k14, k15, k16, k6, k21, k22, k36, k41, k39, k40, k42, k44, k43, k23, k38, k24, k25, k37, k45, k47, k54, k46, k2, k20, if_false, or_self]
  have e2 : fitsB k v ks = kidsB [] ks := by unfold fitsB shapeP; simp only [k1, k3, k4, k34, k35, k5, k7, k14, k15, k16, k6, k21, k22, k36, k41, k39, k40, k42, k44, k43, k23, k38, k24, k25, k37, k45, k47, k54, k46, k2, k20, if_false, or_self]
  rw [e1, e2]
  show (goR [] ks || false) = _
  rw [Bool.or_false]; rfl

/-- A node that the document's word is right. -/
def nodeR (t : List Nd) (i : Nat) : Bool :=
  let x := t.getD i default
  knownB x.k && (nmB x.k x.t && (countR x.k x.v && (decide (0 ≤ x.f) && (decide (x.f ≤ x.e) && (x.kids.all (fun k => decide (0 ≤ k) && decide (k < i)) && (formsR x.k).any (fitsR x.v (kinds t x.kids)))))))
theorem node_eq (t : List Nd) (i : Nat) (hv : I64 (t.getD i default).v) : nodeR t i = nodeB t i := by
  unfold nodeR nodeB
  simp only
  generalize t.getD i default = x at hv
  obtain ⟨q, tx, v, kids, f, e⟩ := x
  simp only at hv ⊢
  rw [count_num hv]
  cases knownB q
  · simp
  cases nmB q tx
  · simp
  cases decide (0 ≤ f)
  · simp
  cases decide (f ≤ e)
  · simp
  cases kids.all (fun k => decide (0 ≤ k) && decide (k < (i : Int)))
  · simp
  simp only [Bool.true_and, Bool.and_true]
  by_cases k2 : q = 2
  · subst k2
    rw [if_pos rfl, show countR 2 v = true from rfl, Bool.true_and]
    show (fitsR v (kinds t kids) [102, 110] || false) = _
    rw [Bool.or_false, show fitsR v (kinds t kids) [102, 110] = fnR v (kinds t kids) from rfl, fn_eq]
  rw [if_neg k2]
  cases hc : countR q v with
  | false => simp
  | true =>
    simp only [Bool.true_and]
    refine anyR q (fun e => absurd e k2) (fun e => ?_)
    subst e
    have : (decide (v = 0) || decide (v = 1)) = true := hc
    simpa using this

theorem take_all {p : Int → Bool} {ks : List Int} {n : Nat} (hn : n ≤ ks.length) : (ks.take n).all p = true ↔ ∀ j, j < n → p (ks.getD j 0) = true := by
  rw [List.all_eq_true]
  constructor
  · intro h j hj
    refine h _ ?_
    rw [List.getD_eq_getElem?_getD, List.getElem?_eq_getElem (by omega : j < ks.length)]
    exact List.mem_take_iff_getElem.2 ⟨j, by omega, rfl⟩
  · intro h k hk
    obtain ⟨j, hj, rfl⟩ := List.mem_take_iff_getElem.1 hk
    have := h j (by omega)
    rwa [List.getD_eq_getElem?_getD, List.getElem?_eq_getElem (by omega : j < ks.length)] at this
theorem drop_all {p : Int → Bool} {ks : List Int} {n : Nat} : (ks.drop n).all p = true ↔ ∀ j, n ≤ j → j < ks.length → p (ks.getD j 0) = true := by
  rw [List.all_eq_true]
  constructor
  · intro h j hj hl
    refine h _ ?_
    rw [List.getD_eq_getElem?_getD, List.getElem?_eq_getElem hl]
    exact List.mem_drop_iff_getElem.2 ⟨j - n, by omega, by simp [show n + (j - n) = j by omega]⟩
  · intro h k hk
    obtain ⟨j, hj, rfl⟩ := List.mem_drop_iff_getElem.1 hk
    have := h (n + j) (by omega) (by omega)
    rwa [List.getD_eq_getElem?_getD, List.getElem?_eq_getElem (by omega : n + j < ks.length)] at this
theorem not_all {α : Type} {p : α → Bool} {l : List α} (h : ¬ l.all p = true) : l.all p = false := by
  cases hb : l.all p with
  | false => rfl
  | true => exact absurd hb h
theorem kinds_get {t : List Nd} {l : List Int} {i : Nat} (h : i < l.length) : (kinds t l).getD i 0 = kindAt t (l.getD i 0) := by
  unfold kinds
  simp only [List.getD_eq_getElem?_getD, List.getElem?_map, List.getElem?_eq_getElem h, Option.map_some, Option.getD_some]
theorem kinds_len {t : List Nd} {l : List Int} : (kinds t l).length = l.length := List.length_map ..
theorem occ2 (s : List UInt8) (i : Nat) : decide ((s.take (i + 2)).drop i = [58, 58]) = Lib.occAt s [58, 58] i := by
  rw [List.drop_take, show i + 2 - i = 2 by omega]
  unfold Lib.occAt
  match s.drop i with
  | [] => rfl
  | [a] =>
    show decide (([a] : List UInt8) = [58, 58]) = (((58 : UInt8) == a) && false)
    rw [Bool.and_false]; exact decide_eq_false (by simp)
  | a :: b :: r =>
    show decide (([a, b] : List UInt8) = [58, 58]) = (((58 : UInt8) == a) && (((58 : UInt8) == b) && true))
    rw [Bool.eq_iff_iff]
    simp only [decide_eq_true_eq, List.cons.injEq, and_true, Bool.and_true, Bool.and_eq_true, beq_iff_eq]
    constructor
    · rintro ⟨h1, h2⟩; exact ⟨h1.symm, h2.symm⟩
    · rintro ⟨h1, h2⟩; exact ⟨h1.symm, h2.symm⟩
/-- Two names, as they are looked for. -/
theorem cut_hit {s : List UInt8} {i : Nat} (h : Lib.NoOcc s [58, 58] i) (hi : i + 2 ≤ s.length) (ho : Lib.occAt s [58, 58] i = true) : cutT s = (s.take i, s.drop (i + 2), true) := by
  unfold cutT Lib.cut
  rw [Lib.index_hit h (by omega) ho, if_pos (by omega)]
  rfl
theorem cut_miss {s : List UInt8} {i : Nat} (h : Lib.NoOcc s [58, 58] i) (hi : s.length < i + 2) : (cutT s).2.2 = false := by
  unfold cutT Lib.cut
  rw [Lib.index_past (by simp) h (by simpa using hi)]
  rfl
end Go.Vm.Tp
