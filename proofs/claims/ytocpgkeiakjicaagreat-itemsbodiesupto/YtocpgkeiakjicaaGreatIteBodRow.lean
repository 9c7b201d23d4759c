/- For all arguments that hold at most 1048576 values and letters the law ItemsBodies of package patinalaw14 returns true and leaves its arguments as they were. -/
import Derived.Test.YtocpgkeiakjicaaGreatTreP8
import Derived.Lib.IndexLaws
import Derived.Test.YtocpgkeiakjicaaGreatIteO2
import Derived.Test.YtocpgkeiakjicaaGreatTreP4
import Derived.Test.YtocpgkeiakjicaaGreatIteW4
set_option linter.unusedSimpArgs false
set_option linter.unusedVariables false
set_option linter.unusedSimpArgs false
namespace Go.Vm.Tp
open Go.Vm.Lex
def lettR (c : UInt8) (k : Int) : Bool :=
 if c = 84 then isTy k
 else if c = 83 then isSt k
 else if c = 69 then isEx k
 else if c = 80 then isPa k
 else if c = 66 then decide (k = 20)
 else if c = 73 then decide (k = 2 ∨ k = 3 ∨ k = 4)
 else if c = 70 then decide (k = 5)
 else if c = 86 then decide (k = 6)
 else if c = 77 then decide (k = 7)
 else if c = 65 then decide (k = 47)
 else if c = 74 then decide (k = 36)
 else decide (k = 20 ∨ k = 45)
def formsR (k : Int) : List (List UInt8) :=
 if k = 1 then [[42, 73]]
 else if k = 2 then [[102, 110]]
 else if k = 3 then [[42, 70]]
 else if k = 4 then [[42, 86]]
 else if k = 5 ∨ k = 7 ∨ k = 14 ∨ k = 15 ∨ k = 16 then [[84]]
 else if k = 6 then [[], [84]]
 else if k = 20 then [[98, 108, 111, 99, 107]]
 else if k = 21 then [[69], [84, 69]]
 else if k = 22 ∨ k = 36 ∨ k = 41 ∨ k = 39 ∨ k = 40 ∨ k = 42 ∨ k = 44 ∨ k = 43 then [[69]]
 else if k = 23 ∨ k = 38 then [[69, 69]]
 else if k = 24 then [[69, 66]]
 else if k = 25 ∨ k = 37 then [[], [69]]
 else if k = 34 then [[42, 69]]
 else if k = 35 then [[42, 74]]
 else if k = 45 then [[69, 66], [69, 66, 88]]
 else if k = 46 then [[69, 42, 65]]
 else if k = 47 then [[80, 69]]
 else if k = 54 then [[], [80]]
 else [[]]
def goR : List UInt8 → List Int → Bool
 | [], l => decide (l = [])
 | 42 :: c :: _, l => l.all (lettR c)
 | c :: s, l => match l with | [] => false | a :: r => lettR c a && goR s r
def fnR (v : Int) (ks : List Int) : Bool := decide (2 ≤ ks.length) && decide (v = ks.length - 2) && isTy (ks.getD (ks.length - 2) 0) && decide (ks.getD (ks.length - 1) 0 = 20) && (ks.take (ks.length - 2)).all (lettR 77)
def blockR (v : Int) (ks : List Int) : Bool := !(decide (v = 1) && (decide (ks.length = 0) || !isEx (ks.getD (ks.length - 1) 0))) && (ks.take (ks.length - v.toNat)).all (lettR 83)
def fitsR (v : Int) (ks : List Int) (f : List UInt8) : Bool := if f = [102, 110] then fnR v ks else if f = [98, 108, 111, 99, 107] then blockR v ks else goR f ks
def countR (k v : Int) : Bool :=
 if k = 2 then true
 else if k = 7 ∨ k = 20 ∨ k = 21 ∨ k = 31 ∨ k = 53 ∨ k = 43 then decide (v = 0) || decide (v = 1)
 else if k = 30 then decide (0 ≤ v)
 else if k = 52 then !decide (v = -9223372036854775808)
 else decide (v = 0)
theorem count_num {k v : Int} (hv : I64 v) (p : Int) : numB k v p = if k = 2 then decide (v = p) else countR k v := by
 unfold numB countR
 by_cases h : k = 2
 ·rw [if_pos h, if_pos h]
 rw [if_neg h, if_neg h, if_neg h]
 by_cases h5 : k = 52
 ·subst h5
  simp only [I64] at hv
  simp
  by_cases e : v = -9223372036854775808
  ·simp [e]
  ·rw [decide_eq_false e, decide_eq_true (by omega)]; rfl
 ·simp only [h5, if_false]
theorem go_one (c : UInt8) (hc : c ≠ 42) (s : List UInt8) (l : List Int) : goR (c :: s) l = match l with | [] => false | a :: r => lettR c a && goR s r := by
  cases s with
  | nil => cases l <;> simp only [goR]
  | cons d s => cases l <;> simp [goR, hc]
theorem fn_eq (v : Int) (ks : List Int) : fnR v ks = (decide (v = params ks) && fitsB 2 v ks) := by
 rw [Bool.eq_iff_iff]
 constructor
 ·intro h
  unfold fnR at h
  simp only [Bool.and_eq_true, decide_eq_true_eq] at h
  obtain ⟨⟨⟨⟨h1, h2⟩, h3⟩, h4⟩, h5⟩ := h
  have hd : ks.drop (ks.length - 2) = [ks.getD (ks.length - 2) 0, ks.getD (ks.length - 1) 0] := by
   have l1 : ks.length - 2 < ks.length := by omega
   have l2 : ks.length - 2 + 1 < ks.length := by omega
   rw [List.drop_eq_getElem_cons l1, List.drop_eq_getElem_cons l2, List.drop_of_length_le (by omega)]
   have e : ks.length - 2 + 1 = ks.length - 1 := by omega
   simp only [e, List.getD_eq_getElem?_getD, List.getElem?_eq_getElem l1, Option.getD_some]
   rw [List.getElem?_eq_getElem (by omega : ks.length - 1 < ks.length)]; rfl
  have h7 : ∀ k ∈ ks.take (ks.length - 2), k = 7 := fun k hk => by
    have := List.all_eq_true.1 h5 k hk
    simpa [lettR] using this
  have hp : params ks = ((ks.length - 2 : Nat) : Int) := by
   conv => lhs; rw [← List.take_append_drop (ks.length - 2) ks, hd]
   rw [params_fn h7 h3 h4, List.length_take]; omega
  rw [Bool.and_eq_true, decide_eq_true_eq, hp]
  refine ⟨by omega, ?_⟩
  have e : fitsB 2 v ks = (decide (([] : List UInt8).length + ([116, 98] : List UInt8).length ≤ ks.length) && (kidsB [] (ks.take ([] : List UInt8).length) && ((ks.take (ks.length - ([116, 98] : List UInt8).length)).drop ([] : List UInt8).length).all (lett 113) && kidsB [116, 98] (ks.drop (ks.length - ([116, 98] : List UInt8).length)))) := rfl
  rw [e]
  simp only [Bool.and_eq_true, decide_eq_true_eq, List.length_nil, List.length_cons, List.drop_zero, Nat.zero_add, hd]
  refine ⟨by omega, ⟨⟨rfl, ?_⟩, ?_⟩⟩
  ·rw [List.all_eq_true]; intro k hk; rw [h7 k hk]; rfl
  ·rw [h4]; simp only [kidsB, lett]; rw [show isTy (ks.getD (ks.length - 2) 0) = true from h3]; simp
 ·intro h
  simp only [Bool.and_eq_true, decide_eq_true_eq] at h
  obtain ⟨h1, h2⟩ := h
  obtain ⟨ps, a, b, rfl, h3, h4, h5⟩ := fn_parts h2
  rw [params_fn h3 h4 h5] at h1
  unfold fnR
  have hl : (ps ++ [a, b]).length = ps.length + 2 := by simp
  rw [hl]
  simp only [Bool.and_eq_true, decide_eq_true_eq]
  refine ⟨⟨⟨⟨by omega, by omega⟩, ?_⟩, ?_⟩, ?_⟩
  ·simpa using h4
  ·simpa using h5
  ·rw [show ps.length + 2 - 2 = ps.length by omega, List.take_left', List.all_eq_true]
   ·intro k hk; rw [h3 k hk]; rfl
   ·rfl
theorem lettR_S (k : Int) : lettR 83 k = isSt k := by simp [lettR]
theorem lett_s (k : Int) : lett 115 k = isSt k := by simp [lett]
theorem block_eq (v : Int) (ks : List Int) (hv : v = 0 ∨ v = 1) : blockR v ks = fitsB 20 v ks := by
 rcases hv with rfl | rfl
 ·have e : fitsB 20 0 ks = (decide (([] : List UInt8).length + ([] : List UInt8).length ≤ ks.length) && (kidsB [] (ks.take ([] : List UInt8).length) && ((ks.take (ks.length - ([] : List UInt8).length)).drop ([] : List UInt8).length).all (lett 115) && kidsB [] (ks.drop (ks.length - ([] : List UInt8).length)))) := rfl
  rw [e]
  unfold blockR
  have e3 : (lettR 83) = lett 115 := by funext k; rw [lettR_S, lett_s]
  rw [e3]
  simp [kidsB]
 ·have e : fitsB 20 1 ks = (decide (([] : List UInt8).length + ([101] : List UInt8).length ≤ ks.length) && (kidsB [] (ks.take ([] : List UInt8).length) && ((ks.take (ks.length - ([101] : List UInt8).length)).drop ([] : List UInt8).length).all (lett 115) && kidsB [101] (ks.drop (ks.length - ([101] : List UInt8).length)))) := rfl
  rw [e]
  unfold blockR
  rcases Nat.eq_zero_or_pos ks.length with h0 | h0
  ·have : ks = [] := List.length_eq_zero_iff.1 h0
   subst this; rfl
  have l1 : ks.length - 1 < ks.length := by omega
  have hd : ks.drop (ks.length - 1) = [ks.getD (ks.length - 1) 0] := by
   rw [List.drop_eq_getElem_cons l1, List.drop_of_length_le (by omega)]
   simp only [List.getD_eq_getElem?_getD, List.getElem?_eq_getElem l1, Option.getD_some]
  simp only [List.length_nil, List.length_cons, Nat.zero_add, List.drop_zero, hd]
  have e2 : ∀ a, kidsB [101] [a] = isEx a := fun a => by simp [kidsB, lett]
  have e3 : (lettR 83) = lett 115 := by funext k; rw [lettR_S, lett_s]
  rw [e2, e3]
  have n0 : ¬ ks.length = 0 := by omega
  simp only [n0, decide_false, decide_true, Bool.true_and, Bool.false_or, Bool.not_not, decide_eq_true (by omega : 1 ≤ ks.length), show (1 : Int).toNat = 1 from rfl, List.take_zero]
  rw [show kidsB [] ([] : List Int) = true from rfl]
  cases isEx (ks.getD (ks.length - 1) 0) <;> simp
theorem anyR {v : Int} {ks : List Int} : ∀ k : Int, (k = 2 → v = params ks) → (k = 20 → v = 0 ∨ v = 1) → (formsR k).any (fitsR v ks) = fitsB k v ks := by
 intro k h2 h20
 have cT : ∀ a, lettR 84 a = lett 116 a := fun a => by simp [lettR, lett]
 have cE : ∀ a, lettR 69 a = lett 101 a := fun a => by simp [lettR, lett]
 have cP : ∀ a, lettR 80 a = lett 112 a := fun a => by simp [lettR, lett]
 have cB : ∀ a, lettR 66 a = lett 98 a := fun a => by simp [lettR, lett]
 have cX : ∀ a, lettR 88 a = lett 111 a := fun a => by simp [lettR, lett]
 have cI : ∀ a, lettR 73 a = lett 105 a := fun a => by simp [lettR, lett]
 have cF : ∀ a, lettR 70 a = lett 102 a := fun a => by simp [lettR, lett]
 have cV : ∀ a, lettR 86 a = lett 118 a := fun a => by simp [lettR, lett]
 have cA : ∀ a, lettR 65 a = lett 97 a := fun a => by simp [lettR, lett]
 have cJ : ∀ a, lettR 74 a = lett 110 a := fun a => by simp [lettR, lett]
 have star : ∀ (c d : UInt8) (m : Bool), (∀ a, lettR c a = lett d a) → goR [42, c] ks = (decide (0 + 0 ≤ ks.length) && (kidsB [] (ks.take 0) && ((ks.take (ks.length - 0)).drop 0).all (lett d) && kidsB [] (ks.drop (ks.length - 0)))) := by
  intro c d _ h
  simp [goR, kidsB, List.drop_length]
  congr 1; funext a; exact h a
 by_cases k2 : k = 2
 ·subst k2
  have h2 := h2 rfl
  show (fitsR v ks [102, 110] || false) = _
  rw [Bool.or_false, show fitsR v ks [102, 110] = fnR v ks from rfl, fn_eq, decide_eq_true h2, Bool.true_and]
 by_cases k20 : k = 20
 ·subst k20
  show (fitsR v ks [98, 108, 111, 99, 107] || false) = _
  rw [Bool.or_false, show fitsR v ks [98, 108, 111, 99, 107] = blockR v ks from rfl, block_eq v ks (h20 rfl)]
 by_cases k1 : k = 1
 ·subst k1
  show (fitsR v ks [42, 73] || false) = _
  rw [Bool.or_false]
  exact star 73 105 true cI
 by_cases k3 : k = 3
 ·subst k3
  show (fitsR v ks [42, 70] || false) = _
  rw [Bool.or_false]
  exact star 70 102 true cF
 by_cases k4 : k = 4
 ·subst k4
  show (fitsR v ks [42, 86] || false) = _
  rw [Bool.or_false]
  exact star 86 118 true cV
 by_cases k34 : k = 34
 ·subst k34
  show (fitsR v ks [42, 69] || false) = _
  rw [Bool.or_false]
  exact star 69 101 true cE
 by_cases k35 : k = 35
 ·subst k35
  show (fitsR v ks [42, 74] || false) = _
  rw [Bool.or_false]
  exact star 74 110 true cJ
 by_cases k5 : k = 5
 ·subst k5
  match ks with
  | [] => rfl
  | [a] => simp [formsR, fitsR, goR, fitsB, shapeP, kidsB, cT, cE, cP, cB, cX]
  | [a, b] => simp [formsR, fitsR, goR, fitsB, shapeP, kidsB, cT, cE, cP, cB, cX]
  | [a, b, c] => simp [formsR, fitsR, goR, fitsB, shapeP, kidsB, cT, cE, cP, cB, cX]
  | a :: b :: c :: d :: r => simp [formsR, fitsR, goR, fitsB, shapeP, kidsB, cT, cE, cP, cB, cX]
 by_cases k7 : k = 7
 ·subst k7
  match ks with
  | [] => rfl
  | [a] => simp [formsR, fitsR, goR, fitsB, shapeP, kidsB, cT, cE, cP, cB, cX]
  | [a, b] => simp [formsR, fitsR, goR, fitsB, shapeP, kidsB, cT, cE, cP, cB, cX]
  | [a, b, c] => simp [formsR, fitsR, goR, fitsB, shapeP, kidsB, cT, cE, cP, cB, cX]
  | a :: b :: c :: d :: r => simp [formsR, fitsR, goR, fitsB, shapeP, kidsB, cT, cE, cP, cB, cX]
 by_cases k14 : k = 14
 ·subst k14
  match ks with
  | [] => rfl
  | [a] => simp [formsR, fitsR, goR, fitsB, shapeP, kidsB, cT, cE, cP, cB, cX]
  | [a, b] => simp [formsR, fitsR, goR, fitsB, shapeP, kidsB, cT, cE, cP, cB, cX]
  | [a, b, c] => simp [formsR, fitsR, goR, fitsB, shapeP, kidsB, cT, cE, cP, cB, cX]
  | a :: b :: c :: d :: r => simp [formsR, fitsR, goR, fitsB, shapeP, kidsB, cT, cE, cP, cB, cX]
 by_cases k15 : k = 15
 ·subst k15
  match ks with
  | [] => rfl
  | [a] => simp [formsR, fitsR, goR, fitsB, shapeP, kidsB, cT, cE, cP, cB, cX]
  | [a, b] => simp [formsR, fitsR, goR, fitsB, shapeP, kidsB, cT, cE, cP, cB, cX]
  | [a, b, c] => simp [formsR, fitsR, goR, fitsB, shapeP, kidsB, cT, cE, cP, cB, cX]
  | a :: b :: c :: d :: r => simp [formsR, fitsR, goR, fitsB, shapeP, kidsB, cT, cE, cP, cB, cX]
 by_cases k16 : k = 16
 ·subst k16
  match ks with
  | [] => rfl
  | [a] => simp [formsR, fitsR, goR, fitsB, shapeP, kidsB, cT, cE, cP, cB, cX]
  | [a, b] => simp [formsR, fitsR, goR, fitsB, shapeP, kidsB, cT, cE, cP, cB, cX]
  | [a, b, c] => simp [formsR, fitsR, goR, fitsB, shapeP, kidsB, cT, cE, cP, cB, cX]
  | a :: b :: c :: d :: r => simp [formsR, fitsR, goR, fitsB, shapeP, kidsB, cT, cE, cP, cB, cX]
 by_cases k6 : k = 6
 ·subst k6
  match ks with
  | [] => rfl
  | [a] => simp [formsR, fitsR, goR, fitsB, shapeP, kidsB, cT, cE, cP, cB, cX]
  | [a, b] => simp [formsR, fitsR, goR, fitsB, shapeP, kidsB, cT, cE, cP, cB, cX]
  | [a, b, c] => simp [formsR, fitsR, goR, fitsB, shapeP, kidsB, cT, cE, cP, cB, cX]
  | a :: b :: c :: d :: r => simp [formsR, fitsR, goR, fitsB, shapeP, kidsB, cT, cE, cP, cB, cX]
 by_cases k21 : k = 21
 ·subst k21
  match ks with
  | [] => rfl
  | [a] => simp [formsR, fitsR, goR, fitsB, shapeP, kidsB, cT, cE, cP, cB, cX]
  | [a, b] => simp [formsR, fitsR, goR, fitsB, shapeP, kidsB, cT, cE, cP, cB, cX]
  | [a, b, c] => simp [formsR, fitsR, goR, fitsB, shapeP, kidsB, cT, cE, cP, cB, cX]
  | a :: b :: c :: d :: r => simp [formsR, fitsR, goR, fitsB, shapeP, kidsB, cT, cE, cP, cB, cX]
 by_cases k22 : k = 22
 ·subst k22
  match ks with
  | [] => rfl
  | [a] => simp [formsR, fitsR, goR, fitsB, shapeP, kidsB, cT, cE, cP, cB, cX]
  | [a, b] => simp [formsR, fitsR, goR, fitsB, shapeP, kidsB, cT, cE, cP, cB, cX]
  | [a, b, c] => simp [formsR, fitsR, goR, fitsB, shapeP, kidsB, cT, cE, cP, cB, cX]
  | a :: b :: c :: d :: r => simp [formsR, fitsR, goR, fitsB, shapeP, kidsB, cT, cE, cP, cB, cX]
 by_cases k36 : k = 36
 ·subst k36
  match ks with
  | [] => rfl
  | [a] => simp [formsR, fitsR, goR, fitsB, shapeP, kidsB, cT, cE, cP, cB, cX]
  | [a, b] => simp [formsR, fitsR, goR, fitsB, shapeP, kidsB, cT, cE, cP, cB, cX]
  | [a, b, c] => simp [formsR, fitsR, goR, fitsB, shapeP, kidsB, cT, cE, cP, cB, cX]
  | a :: b :: c :: d :: r => simp [formsR, fitsR, goR, fitsB, shapeP, kidsB, cT, cE, cP, cB, cX]
 by_cases k41 : k = 41
 ·subst k41
  match ks with
  | [] => rfl
  | [a] => simp [formsR, fitsR, goR, fitsB, shapeP, kidsB, cT, cE, cP, cB, cX]
  | [a, b] => simp [formsR, fitsR, goR, fitsB, shapeP, kidsB, cT, cE, cP, cB, cX]
  | [a, b, c] => simp [formsR, fitsR, goR, fitsB, shapeP, kidsB, cT, cE, cP, cB, cX]
  | a :: b :: c :: d :: r => simp [formsR, fitsR, goR, fitsB, shapeP, kidsB, cT, cE, cP, cB, cX]
 by_cases k39 : k = 39
 ·subst k39
  match ks with
  | [] => rfl
  | [a] => simp [formsR, fitsR, goR, fitsB, shapeP, kidsB, cT, cE, cP, cB, cX]
  | [a, b] => simp [formsR, fitsR, goR, fitsB, shapeP, kidsB, cT, cE, cP, cB, cX]
  | [a, b, c] => simp [formsR, fitsR, goR, fitsB, shapeP, kidsB, cT, cE, cP, cB, cX]
  | a :: b :: c :: d :: r => simp [formsR, fitsR, goR, fitsB, shapeP, kidsB, cT, cE, cP, cB, cX]
 by_cases k40 : k = 40
 ·subst k40
  match ks with
  | [] => rfl
  | [a] => simp [formsR, fitsR, goR, fitsB, shapeP, kidsB, cT, cE, cP, cB, cX]
  | [a, b] => simp [formsR, fitsR, goR, fitsB, shapeP, kidsB, cT, cE, cP, cB, cX]
  | [a, b, c] => simp [formsR, fitsR, goR, fitsB, shapeP, kidsB, cT, cE, cP, cB, cX]
  | a :: b :: c :: d :: r => simp [formsR, fitsR, goR, fitsB, shapeP, kidsB, cT, cE, cP, cB, cX]
 by_cases k42 : k = 42
 ·subst k42
  match ks with
  | [] => rfl
  | [a] => simp [formsR, fitsR, goR, fitsB, shapeP, kidsB, cT, cE, cP, cB, cX]
  | [a, b] => simp [formsR, fitsR, goR, fitsB, shapeP, kidsB, cT, cE, cP, cB, cX]
  | [a, b, c] => simp [formsR, fitsR, goR, fitsB, shapeP, kidsB, cT, cE, cP, cB, cX]
  | a :: b :: c :: d :: r => simp [formsR, fitsR, goR, fitsB, shapeP, kidsB, cT, cE, cP, cB, cX]
 by_cases k44 : k = 44
 ·subst k44
  match ks with
  | [] => rfl
  | [a] => simp [formsR, fitsR, goR, fitsB, shapeP, kidsB, cT, cE, cP, cB, cX]
  | [a, b] => simp [formsR, fitsR, goR, fitsB, shapeP, kidsB, cT, cE, cP, cB, cX]
  | [a, b, c] => simp [formsR, fitsR, goR, fitsB, shapeP, kidsB, cT, cE, cP, cB, cX]
  | a :: b :: c :: d :: r => simp [formsR, fitsR, goR, fitsB, shapeP, kidsB, cT, cE, cP, cB, cX]
 by_cases k43 : k = 43
 ·subst k43
  match ks with
  | [] => rfl
  | [a] => simp [formsR, fitsR, goR, fitsB, shapeP, kidsB, cT, cE, cP, cB, cX]
  | [a, b] => simp [formsR, fitsR, goR, fitsB, shapeP, kidsB, cT, cE, cP, cB, cX]
  | [a, b, c] => simp [formsR, fitsR, goR, fitsB, shapeP, kidsB, cT, cE, cP, cB, cX]
  | a :: b :: c :: d :: r => simp [formsR, fitsR, goR, fitsB, shapeP, kidsB, cT, cE, cP, cB, cX]
 by_cases k23 : k = 23
 ·subst k23
  match ks with
  | [] => rfl
  | [a] => simp [formsR, fitsR, goR, fitsB, shapeP, kidsB, cT, cE, cP, cB, cX]
  | [a, b] => simp [formsR, fitsR, goR, fitsB, shapeP, kidsB, cT, cE, cP, cB, cX]
  | [a, b, c] => simp [formsR, fitsR, goR, fitsB, shapeP, kidsB, cT, cE, cP, cB, cX]
  | a :: b :: c :: d :: r => simp [formsR, fitsR, goR, fitsB, shapeP, kidsB, cT, cE, cP, cB, cX]
 by_cases k38 : k = 38
 ·subst k38
  match ks with
  | [] => rfl
  | [a] => simp [formsR, fitsR, goR, fitsB, shapeP, kidsB, cT, cE, cP, cB, cX]
  | [a, b] => simp [formsR, fitsR, goR, fitsB, shapeP, kidsB, cT, cE, cP, cB, cX]
  | [a, b, c] => simp [formsR, fitsR, goR, fitsB, shapeP, kidsB, cT, cE, cP, cB, cX]
  | a :: b :: c :: d :: r => simp [formsR, fitsR, goR, fitsB, shapeP, kidsB, cT, cE, cP, cB, cX]
 by_cases k24 : k = 24
 ·subst k24
  match ks with
  | [] => rfl
  | [a] => simp [formsR, fitsR, goR, fitsB, shapeP, kidsB, cT, cE, cP, cB, cX]
  | [a, b] => simp [formsR, fitsR, goR, fitsB, shapeP, kidsB, cT, cE, cP, cB, cX]
  | [a, b, c] => simp [formsR, fitsR, goR, fitsB, shapeP, kidsB, cT, cE, cP, cB, cX]
  | a :: b :: c :: d :: r => simp [formsR, fitsR, goR, fitsB, shapeP, kidsB, cT, cE, cP, cB, cX]
 by_cases k25 : k = 25
 ·subst k25
  match ks with
  | [] => rfl
  | [a] => simp [formsR, fitsR, goR, fitsB, shapeP, kidsB, cT, cE, cP, cB, cX]
  | [a, b] => simp [formsR, fitsR, goR, fitsB, shapeP, kidsB, cT, cE, cP, cB, cX]
  | [a, b, c] => simp [formsR, fitsR, goR, fitsB, shapeP, kidsB, cT, cE, cP, cB, cX]
  | a :: b :: c :: d :: r => simp [formsR, fitsR, goR, fitsB, shapeP, kidsB, cT, cE, cP, cB, cX]
 by_cases k37 : k = 37
 ·subst k37
  match ks with
  | [] => rfl
  | [a] => simp [formsR, fitsR, goR, fitsB, shapeP, kidsB, cT, cE, cP, cB, cX]
  | [a, b] => simp [formsR, fitsR, goR, fitsB, shapeP, kidsB, cT, cE, cP, cB, cX]
  | [a, b, c] => simp [formsR, fitsR, goR, fitsB, shapeP, kidsB, cT, cE, cP, cB, cX]
  | a :: b :: c :: d :: r => simp [formsR, fitsR, goR, fitsB, shapeP, kidsB, cT, cE, cP, cB, cX]
 by_cases k45 : k = 45
 ·subst k45
  match ks with
  | [] => rfl
  | [a] => simp [formsR, fitsR, goR, fitsB, shapeP, kidsB, cT, cE, cP, cB, cX]
  | [a, b] => simp [formsR, fitsR, goR, fitsB, shapeP, kidsB, cT, cE, cP, cB, cX]
  | [a, b, c] => simp [formsR, fitsR, goR, fitsB, shapeP, kidsB, cT, cE, cP, cB, cX]
  | a :: b :: c :: d :: r => simp [formsR, fitsR, goR, fitsB, shapeP, kidsB, cT, cE, cP, cB, cX]
 by_cases k47 : k = 47
 ·subst k47
  match ks with
  | [] => rfl
  | [a] => simp [formsR, fitsR, goR, fitsB, shapeP, kidsB, cT, cE, cP, cB, cX]
  | [a, b] => simp [formsR, fitsR, goR, fitsB, shapeP, kidsB, cT, cE, cP, cB, cX]
  | [a, b, c] => simp [formsR, fitsR, goR, fitsB, shapeP, kidsB, cT, cE, cP, cB, cX]
  | a :: b :: c :: d :: r => simp [formsR, fitsR, goR, fitsB, shapeP, kidsB, cT, cE, cP, cB, cX]
 by_cases k54 : k = 54
 ·subst k54
  match ks with
  | [] => rfl
  | [a] => simp [formsR, fitsR, goR, fitsB, shapeP, kidsB, cT, cE, cP, cB, cX]
  | [a, b] => simp [formsR, fitsR, goR, fitsB, shapeP, kidsB, cT, cE, cP, cB, cX]
  | [a, b, c] => simp [formsR, fitsR, goR, fitsB, shapeP, kidsB, cT, cE, cP, cB, cX]
  | a :: b :: c :: d :: r => simp [formsR, fitsR, goR, fitsB, shapeP, kidsB, cT, cE, cP, cB, cX]
 by_cases k46 : k = 46
 ·subst k46
  show (fitsR v ks [69, 42, 65] || false) = (decide (1 + 0 ≤ ks.length) && (kidsB [101] (ks.take 1) && ((ks.take (ks.length - 0)).drop 1).all (lett 97) && kidsB [] (ks.drop (ks.length - 0))))
  rw [Bool.or_false]
  cases ks with
  | nil => rfl
  | cons a r =>
   show (lettR 69 a && r.all (lettR 65)) = _
   have e : lettR 65 = lett 97 := by funext a; exact cA a
   rw [cE, e]
   simp [kidsB]
 have e1 : formsR k = [[]] := by unfold formsR; simp only [k1, k3, k4, k34, k35, k5, k7, k14, k15, k16, k6, k21, k22, k36, k41, k39, k40, k42, k44, k43, k23, k38, k24, k25, k37, k45, k47, k54, k46, k2, k20, if_false, or_self]
 have e2 : fitsB k v ks = kidsB [] ks := by unfold fitsB shapeP; simp only [k1, k3, k4, k34, k35, k5, k7, k14, k15, k16, k6, k21, k22, k36, k41, k39, k40, k42, k44, k43, k23, k38, k24, k25, k37, k45, k47, k54, k46, k2, k20, if_false, or_self]
 rw [e1, e2]
 show (goR [] ks || false) = _
 rw [Bool.or_false]; rfl
def nodeR (t : List Nd) (i : Nat) : Bool :=
 let x := t.getD i default
 knownB x.k && (nmB x.k x.t && (countR x.k x.v && (decide (0 ≤ x.f) && (decide (x.f ≤ x.e) && (x.kids.all (fun k => decide (0 ≤ k) && decide (k < i)) && (formsR x.k).any (fitsR x.v (kinds t x.kids)))))))
theorem node_eq (t : List Nd) (i : Nat) (hv : I64 (t.getD i default).v) : nodeR t i = nodeB t i := by
 unfold nodeR nodeB
 simp only
 generalize t.getD i default = x at hv
 obtain ⟨q, tx, v, kids, f, e⟩ := x
 simp only at hv ⊢
 rw [count_num hv]
 cases knownB q
 ·simp
 cases nmB q tx
 ·simp
 cases decide (0 ≤ f)
 ·simp
 cases decide (f ≤ e)
 ·simp
 cases kids.all (fun k => decide (0 ≤ k) && decide (k < (i : Int)))
 ·simp
 simp only [Bool.true_and, Bool.and_true]
 by_cases k2 : q = 2
 ·subst k2
  rw [if_pos rfl, show countR 2 v = true from rfl, Bool.true_and]
  show (fitsR v (kinds t kids) [102, 110] || false) = _
  rw [Bool.or_false, show fitsR v (kinds t kids) [102, 110] = fnR v (kinds t kids) from rfl, fn_eq]
 rw [if_neg k2]
 cases hc : countR q v with
 | false => simp
 | true =>
  simp only [Bool.true_and]
  refine anyR q (fun e => absurd e k2) (fun e => ?_)
  subst e
  have : (decide (v = 0) || decide (v = 1)) = true := hc
  simpa using this
theorem take_all {p : Int → Bool} {ks : List Int} {n : Nat} (hn : n ≤ ks.length) : (ks.take n).all p = true ↔ ∀ j, j < n → p (ks.getD j 0) = true := by
 rw [List.all_eq_true]
 constructor
 ·intro h j hj
  refine h _ ?_
  rw [List.getD_eq_getElem?_getD, List.getElem?_eq_getElem (by omega : j < ks.length)]
  exact List.mem_take_iff_getElem.2 ⟨j, by omega, rfl⟩
 ·intro h k hk
  obtain ⟨j, hj, rfl⟩ := List.mem_take_iff_getElem.1 hk
  have := h j (by omega)
  rwa [List.getD_eq_getElem?_getD, List.getElem?_eq_getElem (by omega : j < ks.length)] at this
theorem drop_all {p : Int → Bool} {ks : List Int} {n : Nat} : (ks.drop n).all p = true ↔ ∀ j, n ≤ j → j < ks.length → p (ks.getD j 0) = true := by
 rw [List.all_eq_true]
 constructor
 ·intro h j hj hl
  refine h _ ?_
  rw [List.getD_eq_getElem?_getD, List.getElem?_eq_getElem hl]
  exact List.mem_drop_iff_getElem.2 ⟨j - n, by omega, by simp [show n + (j - n) = j by omega]⟩
 ·intro h k hk
  obtain ⟨j, hj, rfl⟩ := List.mem_drop_iff_getElem.1 hk
  have := h (n + j) (by omega) (by omega)
  rwa [List.getD_eq_getElem?_getD, List.getElem?_eq_getElem (by omega : n + j < ks.length)] at this
theorem not_all {α : Type} {p : α → Bool} {l : List α} (h : ¬ l.all p = true) : l.all p = false := by
 cases hb : l.all p with
 | false => rfl
 | true => exact absurd hb h
theorem kinds_get {t : List Nd} {l : List Int} {i : Nat} (h : i < l.length) : (kinds t l).getD i 0 = kindAt t (l.getD i 0) := by
 unfold kinds
 simp only [List.getD_eq_getElem?_getD, List.getElem?_map, List.getElem?_eq_getElem h, Option.map_some, Option.getD_some]
theorem kinds_len {t : List Nd} {l : List Int} : (kinds t l).length = l.length := List.length_map ..
theorem occ2 (s : List UInt8) (i : Nat) : decide ((s.take (i + 2)).drop i = [58, 58]) = Lib.occAt s [58, 58] i := by
 rw [List.drop_take, show i + 2 - i = 2 by omega]
 unfold Lib.occAt
 match s.drop i with
 | [] => rfl
 | [a] =>
  show decide (([a] : List UInt8) = [58, 58]) = (((58 : UInt8) == a) && false)
  rw [Bool.and_false]; exact decide_eq_false (by simp)
 | a :: b :: r =>
  show decide (([a, b] : List UInt8) = [58, 58]) = (((58 : UInt8) == a) && (((58 : UInt8) == b) && true))
  rw [Bool.eq_iff_iff]
  simp only [decide_eq_true_eq, List.cons.injEq, and_true, Bool.and_true, Bool.and_eq_true, beq_iff_eq]
  constructor
  ·rintro ⟨h1, h2⟩; exact ⟨h1.symm, h2.symm⟩
  ·rintro ⟨h1, h2⟩; exact ⟨h1.symm, h2.symm⟩
theorem cut_hit {s : List UInt8} {i : Nat} (h : Lib.NoOcc s [58, 58] i) (hi : i + 2 ≤ s.length) (ho : Lib.occAt s [58, 58] i = true) : cutT s = (s.take i, s.drop (i + 2), true) := by
 unfold cutT Lib.cut
 rw [Lib.index_hit h (by omega) ho, if_pos (by omega)]
 rfl
theorem cut_miss {s : List UInt8} {i : Nat} (h : Lib.NoOcc s [58, 58] i) (hi : s.length < i + 2) : (cutT s).2.2 = false := by
 unfold cutT Lib.cut
 rw [Lib.index_past (by simp) h (by simpa using hi)]
 rfl
end Go.Vm.Tp
namespace Go.Vm.Itr
open Go.Vm.Ite
open Go.Vm.Tp
open Go.Vm.Lex (nameB)
set_option maxRecDepth 10000
section
variable {fx : Nat → Option Obj} {F : Nat → Option VFun} [HC F] (H : Hp)
theorem risType_ev (k : Int) : evF (pgL fx F) n_ref13_IsType [i64 k] H = some (boo (isTy k), H) := by
 have _u := (inferInstance : HC F)
 refine evF_wq (t_ref13_IsType (F := F)) rfl rfl ?_ H
 unfold isTy
 by_cases h1 : 10 ≤ k
 ·refine run ⟨?_⟩
  rw [decide_eq_true h1]; exact rfl
 ·refine run ⟨?_⟩
  rw [decide_eq_false h1]; exact rfl
theorem risStmt_ev (k : Int) : evF (pgL fx F) n_ref13_IsStmt [i64 k] H = some (boo (isSt k), H) := by
 have _u := (inferInstance : HC F)
 refine evF_wq (t_ref13_IsStmt (F := F)) rfl rfl ?_ H
 unfold isSt
 by_cases h1 : 21 ≤ k
 ·refine run ⟨?_⟩
  rw [decide_eq_true h1]; exact rfl
 ·refine run ⟨?_⟩
  rw [decide_eq_false h1]; exact rfl
theorem risPattern_ev (k : Int) : evF (pgL fx F) n_ref13_IsPattern [i64 k] H = some (boo (isPa k), H) := by
 have _u := (inferInstance : HC F)
 refine evF_wq (t_ref13_IsPattern (F := F)) rfl rfl ?_ H
 unfold isPa
 by_cases h1 : 50 ≤ k
 ·refine run ⟨?_⟩
  rw [decide_eq_true h1]; exact rfl
 ·refine run ⟨?_⟩
  rw [decide_eq_false h1]; exact rfl
theorem risExpr_ev (k : Int) : evF (pgL fx F) n_ref13_IsExpr [i64 k] H = some (boo (isEx k), H) := by
 have _u := (inferInstance : HC F)
 refine evF_wq (t_ref13_IsExpr (F := F)) rfl rfl ?_ H
 unfold isEx
 by_cases h0 : k = 20
 ·refine run ⟨?_⟩
  rw [decide_eq_true h0]; exact rfl
 by_cases h1 : 30 ≤ k
 ·by_cases h2 : k ≤ 46
  ·refine run ⟨?_⟩
   rw [decide_eq_false h0, decide_eq_true h1, decide_eq_true h2]; exact rfl
  ·refine run ⟨?_⟩
   rw [decide_eq_false h0, decide_eq_true h1, decide_eq_false h2]; exact rfl
 ·refine run ⟨?_⟩
  rw [decide_eq_false h0, decide_eq_false h1]; exact rfl
theorem ris_ev (k : Int) (c : UInt8) : evF (pgL fx F) n_ref13_is [i64 k, u8 c] H = some (boo (lettR c k), H) := by
 refine evF_wq (t_ref13_is (F := F)) rfl rfl ?_ H
 by_cases c84 : c = 84
 ·subst c84
  repeat' (first | refine run ⟨?_⟩ | refine ca (risType_ev _ _) ?_ | fail)
  exact rfl
 by_cases c83 : c = 83
 ·subst c83
  repeat' (first | refine run ⟨?_⟩ | refine ca (risStmt_ev _ _) ?_ | fail)
  exact rfl
 by_cases c69 : c = 69
 ·subst c69
  repeat' (first | refine run ⟨?_⟩ | refine ca (risExpr_ev _ _) ?_ | fail)
  exact rfl
 by_cases c80 : c = 80
 ·subst c80
  repeat' (first | refine run ⟨?_⟩ | refine ca (risPattern_ev _ _) ?_ | fail)
  exact rfl
 by_cases c66 : c = 66
 ·subst c66
  refine run ⟨?_⟩
  exact rfl
 by_cases c73 : c = 73
 ·subst c73
  by_cases k2 : k = 2
  ·subst k2
   refine run ⟨?_⟩
   exact rfl
  by_cases k3 : k = 3
  ·subst k3
   refine run ⟨?_⟩
   exact rfl
  rw [show lettR 73 k = decide (k = 4) by simp [lettR, k2, k3]]
  refine run ⟨?_⟩
  exact rfl
 by_cases c70 : c = 70
 ·subst c70
  refine run ⟨?_⟩
  exact rfl
 by_cases c86 : c = 86
 ·subst c86
  refine run ⟨?_⟩
  exact rfl
 by_cases c77 : c = 77
 ·subst c77
  refine run ⟨?_⟩
  exact rfl
 by_cases c65 : c = 65
 ·subst c65
  refine run ⟨?_⟩
  exact rfl
 by_cases c74 : c = 74
 ·subst c74
  refine run ⟨?_⟩
  exact rfl
 have e : lettR c k = decide (k = 20 ∨ k = 45) := by unfold lettR; simp [c84, c83, c69, c80, c66, c73, c70, c86, c77, c65, c74]
 rw [e]
 have n84 : decide ((c.toNat : Int) = 84) = false := u8ne c84 rfl
 have n83 : decide ((c.toNat : Int) = 83) = false := u8ne c83 rfl
 have n69 : decide ((c.toNat : Int) = 69) = false := u8ne c69 rfl
 have n80 : decide ((c.toNat : Int) = 80) = false := u8ne c80 rfl
 have n66 : decide ((c.toNat : Int) = 66) = false := u8ne c66 rfl
 have n73 : decide ((c.toNat : Int) = 73) = false := u8ne c73 rfl
 have n70 : decide ((c.toNat : Int) = 70) = false := u8ne c70 rfl
 have n86 : decide ((c.toNat : Int) = 86) = false := u8ne c86 rfl
 have n77 : decide ((c.toNat : Int) = 77) = false := u8ne c77 rfl
 have n65 : decide ((c.toNat : Int) = 65) = false := u8ne c65 rfl
 have n74 : decide ((c.toNat : Int) = 74) = false := u8ne c74 rfl
 by_cases k20 : k = 20
 ·subst k20
  refine run ⟨?_⟩
  exact rfl
 rw [show decide (k = 20 ∨ k = 45) = decide (k = 45) by simp [k20]]
 refine run ⟨?_⟩
 exact rfl
set_option maxHeartbeats 2000000 in
theorem rforms_ev (x : Nd) : evF (pgL fx F) n_ref13_forms [ndV x] H = some (.d (.sl ((formsR x.k).map .str)), H) := by
 have _u := (inferInstance : HC F)
 obtain ⟨k, t, v, kids, f, e⟩ := x
 refine evF_wq (t_ref13_forms (F := F)) rfl rfl ?_ H
 by_cases c1 : k = 1
 ·subst c1
  refine run ⟨?_⟩
  exact rfl
 by_cases c2 : k = 2
 ·subst c2
  refine run ⟨?_⟩
  exact rfl
 by_cases c3 : k = 3
 ·subst c3
  refine run ⟨?_⟩
  exact rfl
 by_cases c4 : k = 4
 ·subst c4
  refine run ⟨?_⟩
  exact rfl
 by_cases c5 : k = 5
 ·subst c5
  refine run ⟨?_⟩
  exact rfl
 by_cases c7 : k = 7
 ·subst c7
  refine run ⟨?_⟩
  exact rfl
 by_cases c14 : k = 14
 ·subst c14
  refine run ⟨?_⟩
  exact rfl
 by_cases c15 : k = 15
 ·subst c15
  refine run ⟨?_⟩
  exact rfl
 by_cases c16 : k = 16
 ·subst c16
  refine run ⟨?_⟩
  exact rfl
 by_cases c6 : k = 6
 ·subst c6
  refine run ⟨?_⟩
  exact rfl
 by_cases c20 : k = 20
 ·subst c20
  refine run ⟨?_⟩
  exact rfl
 by_cases c21 : k = 21
 ·subst c21
  refine run ⟨?_⟩
  exact rfl
 by_cases c22 : k = 22
 ·subst c22
  refine run ⟨?_⟩
  exact rfl
 by_cases c36 : k = 36
 ·subst c36
  refine run ⟨?_⟩
  exact rfl
 by_cases c41 : k = 41
 ·subst c41
  refine run ⟨?_⟩
  exact rfl
 by_cases c39 : k = 39
 ·subst c39
  refine run ⟨?_⟩
  exact rfl
 by_cases c40 : k = 40
 ·subst c40
  refine run ⟨?_⟩
  exact rfl
 by_cases c42 : k = 42
 ·subst c42
  refine run ⟨?_⟩
  exact rfl
 by_cases c44 : k = 44
 ·subst c44
  refine run ⟨?_⟩
  exact rfl
 by_cases c43 : k = 43
 ·subst c43
  refine run ⟨?_⟩
  exact rfl
 by_cases c23 : k = 23
 ·subst c23
  refine run ⟨?_⟩
  exact rfl
 by_cases c38 : k = 38
 ·subst c38
  refine run ⟨?_⟩
  exact rfl
 by_cases c24 : k = 24
 ·subst c24
  refine run ⟨?_⟩
  exact rfl
 by_cases c25 : k = 25
 ·subst c25
  refine run ⟨?_⟩
  exact rfl
 by_cases c37 : k = 37
 ·subst c37
  refine run ⟨?_⟩
  exact rfl
 by_cases c34 : k = 34
 ·subst c34
  refine run ⟨?_⟩
  exact rfl
 by_cases c35 : k = 35
 ·subst c35
  refine run ⟨?_⟩
  exact rfl
 by_cases c45 : k = 45
 ·subst c45
  refine run ⟨?_⟩
  exact rfl
 by_cases c46 : k = 46
 ·subst c46
  refine run ⟨?_⟩
  exact rfl
 by_cases c47 : k = 47
 ·subst c47
  refine run ⟨?_⟩
  exact rfl
 by_cases c54 : k = 54
 ·subst c54
  refine run ⟨?_⟩
  exact rfl
 have e0 : formsR k = [[]] := by
  unfold formsR
  simp only [c1, c2, c3, c4, c5, c7, c14, c15, c16, c6, c20, c21, c22, c36, c41, c39, c40, c42, c44, c43, c23, c38, c24, c25, c37, c34, c35, c45, c46, c47, c54, if_false, or_self]
 rw [e0]
 refine run ⟨?_⟩
 exact rfl
theorem rcounted_ev (x : Nd) : evF (pgL fx F) n_ref13_counted [ndV x] H = some (boo (countR x.k x.v), H) := by
 have _u := (inferInstance : HC F)
 obtain ⟨k, t, v, kids, f, e⟩ := x
 simp only
 refine evF_wq (t_ref13_counted (F := F)) rfl rfl ?_ H
 by_cases h2 : k = 2
 ·subst h2
  refine run ⟨?_⟩
  exact rfl
 by_cases hA : k = 7 ∨ k = 20 ∨ k = 21 ∨ k = 31 ∨ k = 53 ∨ k = 43
 ·have e0 : countR k v = (decide (v = 0) || decide (v = 1)) := by unfold countR; rw [if_neg h2, if_pos hA]
  rw [e0]
  rcases hA with rfl | rfl | rfl | rfl | rfl | rfl
  all_goals
   by_cases h0 : v = 0
   ·subst h0
    refine run ⟨?_⟩
    exact rfl
   ·refine run ⟨?_⟩
    rw [decide_eq_false h0]; exact rfl
 have e1 : countR k v = (if k = 30 then decide (0 ≤ v) else if k = 52 then !decide (v = -9223372036854775808) else decide (v = 0)) := by unfold countR; rw [if_neg h2, if_neg hA]
 rw [e1]
 simp only [not_or] at hA
 obtain ⟨a1, a2, a3, a4, a5, a6⟩ := hA
 by_cases h30 : k = 30
 ·subst h30
  refine run ⟨?_⟩
  exact rfl
 rw [if_neg h30]
 by_cases h52 : k = 52
 ·subst h52
  refine run ⟨?_⟩
  exact rfl
 rw [if_neg h52]
 refine run ⟨?_⟩
 exact rfl
theorem rknown_ev (k : Int) : evF (pgL fx F) n_ref13_known [i64 k] H = some (boo (knownB k), H) := by
 refine evF_wq (t_ref13_known (F := F)) rfl rfl ?_ H
 repeat' (first | refine run ⟨?_⟩ | refine ca (risType_ev _ _) ?_ | refine ca (risStmt_ev _ _) ?_ | refine ca (risPattern_ev _ _) ?_ | refine And.intro (fun h => ?_) (fun h => ?_) | fail)
 all_goals
  show V.d (D.bool _) = V.d (D.bool _)
  refine congrArg (fun b => V.d (D.bool b)) ?_
  rw [Bool.eq_iff_iff]
  simp only [knownB, isTy, isSt, isPa, isEx, Bool.or_eq_true, Bool.and_eq_true, Bool.and_eq_false_iff, Bool.not_eq_true', Bool.not_false, Bool.not_true, decide_eq_true_eq, decide_eq_false_iff_not] at *
  constructor <;> intro hh <;> first | trivial | omega | exact absurd hh Bool.false_ne_true
def signN (s : List UInt8) : Int := if s = [124, 124] then 1 else if s = [38, 38] then 2 else if s = [61, 61] ∨ s = [33, 61] ∨ s = [60] ∨ s = [62] ∨ s = [60, 61] ∨ s = [62, 61] then 3 else if s = [43] ∨ s = [45] then 4 else if s = [42] ∨ s = [47] ∨ s = [37] then 5 else 0
theorem rsign_ev (s : List UInt8) : evF (pgL fx F) n_ref13_Sign [str s] H = some (i64 (signN s), H) := by
 have _u := (inferInstance : HC F)
 refine evF_wq (t_ref13_Sign (F := F)) rfl rfl ?_ H
 by_cases c0 : s = [124, 124]
 ·subst c0
  refine run ⟨?_⟩
  exact rfl
 by_cases c1 : s = [38, 38]
 ·subst c1
  refine run ⟨?_⟩
  exact rfl
 by_cases c2 : s = [61, 61]
 ·subst c2
  refine run ⟨?_⟩
  exact rfl
 by_cases c3 : s = [33, 61]
 ·subst c3
  refine run ⟨?_⟩
  exact rfl
 by_cases c4 : s = [60]
 ·subst c4
  refine run ⟨?_⟩
  exact rfl
 by_cases c5 : s = [62]
 ·subst c5
  refine run ⟨?_⟩
  exact rfl
 by_cases c6 : s = [60, 61]
 ·subst c6
  refine run ⟨?_⟩
  exact rfl
 by_cases c7 : s = [62, 61]
 ·subst c7
  refine run ⟨?_⟩
  exact rfl
 by_cases c8 : s = [43]
 ·subst c8
  refine run ⟨?_⟩
  exact rfl
 by_cases c9 : s = [45]
 ·subst c9
  refine run ⟨?_⟩
  exact rfl
 by_cases c10 : s = [42]
 ·subst c10
  refine run ⟨?_⟩
  exact rfl
 by_cases c11 : s = [47]
 ·subst c11
  refine run ⟨?_⟩
  exact rfl
 by_cases c12 : s = [37]
 ·subst c12
  refine run ⟨?_⟩
  exact rfl
 have e0 : signN s = 0 := by
  unfold signN
  simp only [c0, c1, c2, c3, c4, c5, c6, c7, c8, c9, c10, c11, c12, if_false, or_self]
 rw [e0]
 refine run ⟨?_⟩
 exact rfl
end
end Go.Vm.Itr
namespace Go.Vm.Itr
open Go.Vm.Ite
open Go.Vm.Tp
open Go.Vm.Lex (nameB)
set_option maxRecDepth 10000
theorem gK {l : List Int} {j : Nat} (h : j < l.length) : (l.map (D.int .i64))[j]? = some (.int .i64 (l.getD j 0)) := by rw [List.getElem?_map, get_getD h 0]; rfl
abbrev TB (t : List Nd) : Ob := .box [.d (.sl (t.map Nd.D))]
abbrev XB (x : Nd) : Ob := .box [i64 x.k, str x.t, i64 x.v, ints x.kids, i64 x.f, i64 x.e]
section
variable {fx : Nat → Option Obj} {F : Nat → Option VFun} [HC F] (H : Hp)
theorem rkid_ev (t : List Nd) (x : Nd) (i : Nat) (hi : i < x.kids.length) (hk : ∀ k ∈ x.kids, 0 ≤ k ∧ k < t.length) : evF (pgL fx F) n_ref13_kid [.d (treeD t), ndV x, i64 i] H = some (i64 (kindAt t (x.kids.getD i 0)), H) := by
 have _u := (inferInstance : HC F)
 refine evF_wq (t_ref13_kid (F := F)) rfl rfl ?_ H
 obtain ⟨q, tx, v, kids, f, e⟩ := x
 simp only at hi hk ⊢
 have h1 := hk _ (List.getElem_mem hi)
 have e1 : kids.getD i 0 = kids[i] := by simp [hi]
 rw [← e1] at h1
 repeat' (first | refine run ⟨?_⟩ | refine pickD (d := .int .i64 (kids.getD i 0)) ⟨by omega, gK hi⟩ ?_ | refine pickD (d := (nd t (kids.getD i 0).toNat).D) (ndD_at h1.1 h1.2) ?_ | fail)
 exact rfl
set_option maxHeartbeats 1000000 in
theorem rfits_fn (t : List Nd) (x : Nd) (hkl : x.kids.length ≤ 1048576) (hk : ∀ k ∈ x.kids, 0 ≤ k ∧ k < t.length) : evF (pgL fx F) n_ref13_fits [.d (treeD t), ndV x, str [102, 110]] H = some (boo (fnR x.v (kinds t x.kids)), H) := by
 refine evF_wq (t_ref13_fits (F := F)) rfl rfl ?_ H
 have hkid := fun (i : Nat) (hi : i < x.kids.length) (H : Hp) => rkid_ev (fx := fx) (F := F) H t x i hi hk
 have hg := fun (i : Nat) (hi : i < x.kids.length) => kinds_get (t := t) hi
 have hl := kinds_len (t := t) (l := x.kids)
 have hml : (x.kids.map (D.int .i64)).length = x.kids.length := List.length_map ..
 unfold fnR
 rw [hl]
 obtain ⟨ks, hks⟩ : ∃ ks, ks = kinds t x.kids := ⟨_, rfl⟩
 rw [← hks] at hl hg ⊢
 by_cases c1 : x.kids.length < 2
 ·have d1 : ((x.kids.map (D.int .i64)).length : Int) < 2 := by omega
  refine run ⟨?_⟩
  rw [decide_eq_false (by omega : ¬ 2 ≤ x.kids.length)]; exact rfl
 have d1 : ¬ ((x.kids.map (D.int .i64)).length : Int) < 2 := by omega
 have w1 : IntKind.i64.wrap (((x.kids.map (D.int .i64)).length : Int) - 2) = ((x.kids.length - 2 : Nat) : Int) := by rw [hml, i64w (by omega)]; omega
 have w2 : IntKind.i64.wrap (((x.kids.map (D.int .i64)).length : Int) - 1) = ((x.kids.length - 1 : Nat) : Int) := by rw [hml, i64w (by omega)]; omega
 rw [decide_eq_true (by omega : 2 ≤ x.kids.length)]
 by_cases c2 : x.v = (x.kids.length : Int) - 2
 rotate_left
 ·have d2 : (!decide (x.v = IntKind.i64.wrap (((x.kids.map (D.int .i64)).length : Int) - 2))) = true := by rw [w1, decide_eq_false (by omega)]; rfl
  refine run ⟨?_⟩
  rw [decide_eq_false c2]; exact rfl
 have d2 : (!decide (x.v = IntKind.i64.wrap (((x.kids.map (D.int .i64)).length : Int) - 2))) = false := by rw [w1, decide_eq_true (by omega)]; rfl
 rw [decide_eq_true c2]
 have hk2 := fun H => hkid (x.kids.length - 2) (by omega) H
 rw [← w1] at hk2
 rw [← hg _ (by omega)] at hk2
 cases c3 : isTy (ks.getD (x.kids.length - 2) 0) with
 | false =>
  have hr := fun H => ris_ev (fx := fx) (F := F) H (ks.getD (x.kids.length - 2) 0) 84
  rw [show lettR 84 (ks.getD (x.kids.length - 2) 0) = false from c3] at hr
  repeat' (first | refine run ⟨?_⟩ | refine ca (hk2 _) ?_ | refine ca (hr _) ?_ | fail)
  exact rfl
 | true =>
  have hr := fun H => ris_ev (fx := fx) (F := F) H (ks.getD (x.kids.length - 2) 0) 84
  rw [show lettR 84 (ks.getD (x.kids.length - 2) 0) = true from c3] at hr
  have hk1 := fun H => hkid (x.kids.length - 1) (by omega) H
  rw [← w2] at hk1
  rw [← hg _ (by omega)] at hk1
  have hr2 := fun H => ris_ev (fx := fx) (F := F) H (ks.getD (x.kids.length - 1) 0) 66
  have e66 : lettR 66 (ks.getD (x.kids.length - 1) 0) = decide (ks.getD (x.kids.length - 1) 0 = 20) := rfl
  by_cases c4 : ks.getD (x.kids.length - 1) 0 = 20
  rotate_left
  ·rw [e66, decide_eq_false c4] at hr2
   repeat' (first | refine run ⟨?_⟩ | refine ca (hk2 _) ?_ | refine ca (hr _) ?_ | refine ca (hk1 _) ?_ | refine ca (hr2 _) ?_ | fail)
   rw [decide_eq_false c4]; exact rfl
  rw [e66, decide_eq_true c4] at hr2
  rw [decide_eq_true c4]
  repeat' (first | refine run ⟨?_⟩ | refine ca (hk2 _) ?_ | refine ca (hr _) ?_ | refine ca (hk1 _) ?_ | refine ca (hr2 _) ?_ | fail)
  refine wq_loop (α := Nat) (fun i => x.kids.length - i) (fun i => [(3, .ptr 0 0), (4, .ptr 1 0), (7, i64 x.kids.length), (8, i64 i)]) (fun _ => [TB t, XB x]) (fun i => i ≤ x.kids.length - 2 ∧ ∀ j, j < i → lettR 77 (ks.getD j 0) = true) ?_ 0 ⟨by omega, by omega⟩ ?_ rfl
  ·rintro i ⟨hi, hall⟩
   have w3 : IntKind.i64.wrap ((x.kids.length : Int) - 2) = ((x.kids.length - 2 : Nat) : Int) := by rw [i64w (by omega)]; omega
   by_cases h : i < x.kids.length - 2
   ·have h' : (i : Int) < IntKind.i64.wrap ((x.kids.length : Int) - 2) := by omega
    have hki := fun H => hkid i (by omega) H
    rw [← hg _ (by omega)] at hki
    have hri := fun H => ris_ev (fx := fx) (F := F) H (ks.getD i 0) 77
    cases hc : lettR 77 (ks.getD i 0) with
    | false =>
     rw [hc] at hri
     repeat' (first | refine run ⟨?_⟩ | refine ca (hki _) ?_ | refine ca (hri _) ?_ | fail)
     rw [not_all (p := lettR 77) (l := ks.take (x.kids.length - 2)) (fun e => by rw [take_all (by omega)] at e; have := e i h; rw [hc] at this; cases this)]; exact rfl
    | true =>
     rw [hc] at hri
     repeat' (first | refine run ⟨?_⟩ | refine ca (hki _) ?_ | refine ca (hri _) ?_ | fail)
     refine ⟨i + 1, ⟨by omega, fun j hj => ?_⟩, by omega, by rw [i64w (by omega)]; rfl, rfl⟩
     by_cases e : j = i
     ·rw [e]; exact hc
     ·exact hall j (by omega)
   ·have h' : ¬ (i : Int) < IntKind.i64.wrap ((x.kids.length : Int) - 2) := by omega
    refine run ⟨?_⟩
    rw [(take_all (p := lettR 77) (by omega)).2 (fun j hj => hall j (by omega))]; exact rfl
  ·show [_, _, (7, i64 ((x.kids.map (D.int .i64)).length : Int)), _] = _
   rw [hml]; rfl
set_option maxHeartbeats 1000000 in
theorem rfits_block (t : List Nd) (x : Nd) (hkl : x.kids.length ≤ 1048576) (hk : ∀ k ∈ x.kids, 0 ≤ k ∧ k < t.length) (hv : x.v = 0 ∨ x.v = 1) : evF (pgL fx F) n_ref13_fits [.d (treeD t), ndV x, str [98, 108, 111, 99, 107]] H = some (boo (blockR x.v (kinds t x.kids)), H) := by
 refine evF_wq (t_ref13_fits (F := F)) rfl rfl ?_ H
 have hkid := fun (i : Nat) (hi : i < x.kids.length) (H : Hp) => rkid_ev (fx := fx) (F := F) H t x i hi hk
 have hg := fun (i : Nat) (hi : i < x.kids.length) => kinds_get (t := t) hi
 have hl := kinds_len (t := t) (l := x.kids)
 have hml : (x.kids.map (D.int .i64)).length = x.kids.length := List.length_map ..
 unfold blockR
 rw [hl]
 obtain ⟨ks, hks⟩ : ∃ ks, ks = kinds t x.kids := ⟨_, rfl⟩
 rw [← hks] at hl hg ⊢
 have loop : ∀ Q : Prop, True := fun _ => trivial
 by_cases c1 : x.v = 1
 ·by_cases c2 : x.kids.length = 0
  ·have d2 : ((x.kids.map (D.int .i64)).length : Int) = 0 := by omega
   refine run ⟨?_⟩
   rw [decide_eq_true c1, decide_eq_true c2]; exact rfl
  have d2 : ¬ ((x.kids.map (D.int .i64)).length : Int) = 0 := by omega
  have w2 : IntKind.i64.wrap (((x.kids.map (D.int .i64)).length : Int) - 1) = ((x.kids.length - 1 : Nat) : Int) := by rw [hml, i64w (by omega)]; omega
  have hk1 := fun H => hkid (x.kids.length - 1) (by omega) H
  rw [← w2] at hk1
  rw [← hg _ (by omega)] at hk1
  have hr2 := fun H => ris_ev (fx := fx) (F := F) H (ks.getD (x.kids.length - 1) 0) 69
  rw [show lettR 69 (ks.getD (x.kids.length - 1) 0) = isEx (ks.getD (x.kids.length - 1) 0) from rfl] at hr2
  cases c3 : isEx (ks.getD (x.kids.length - 1) 0) with
  | false =>
   rw [c3] at hr2
   repeat' (first | refine run ⟨?_⟩ | refine ca (hk1 _) ?_ | refine ca (hr2 _) ?_ | fail)
   rw [decide_eq_true c1, decide_eq_false c2]; exact rfl
  | true =>
   rw [c3] at hr2
   repeat' (first | refine run ⟨?_⟩ | refine ca (hk1 _) ?_ | refine ca (hr2 _) ?_ | fail)
   have hn : x.v.toNat ≤ x.kids.length := by omega
   have w3 : IntKind.i64.wrap ((x.kids.length : Int) - x.v) = ((x.kids.length - x.v.toNat : Nat) : Int) := by rw [i64w (by omega)]; omega
   refine wq_loop (α := Nat) (fun i => x.kids.length - i) (fun i => [(3, .ptr 0 0), (4, .ptr 1 0), (7, i64 x.kids.length), (9, i64 i)]) (fun _ => [TB t, XB x]) (fun i => i ≤ x.kids.length - x.v.toNat ∧ ∀ j, j < i → lettR 83 (ks.getD j 0) = true) ?_ 0 ⟨by omega, by omega⟩ ?_ rfl
   ·rintro i ⟨hi, hall⟩
    by_cases h : i < x.kids.length - x.v.toNat
    ·have h' : (i : Int) < IntKind.i64.wrap ((x.kids.length : Int) - x.v) := by omega
     have hki := fun H => hkid i (by omega) H
     rw [← hg _ (by omega)] at hki
     have hri := fun H => ris_ev (fx := fx) (F := F) H (ks.getD i 0) 83
     cases hc : lettR 83 (ks.getD i 0) with
     | false =>
      rw [hc] at hri
      repeat' (first | refine run ⟨?_⟩ | refine ca (hki _) ?_ | refine ca (hri _) ?_ | fail)
      rw [not_all (p := lettR 83) (l := ks.take (x.kids.length - x.v.toNat)) (fun e => by rw [take_all (by omega)] at e; have := e i h; rw [hc] at this; cases this), Bool.and_false]; exact rfl
     | true =>
      rw [hc] at hri
      repeat' (first | refine run ⟨?_⟩ | refine ca (hki _) ?_ | refine ca (hri _) ?_ | fail)
      refine ⟨i + 1, ⟨by omega, fun j hj => ?_⟩, by omega, by rw [i64w (by omega)]; rfl, rfl⟩
      by_cases e : j = i
      ·rw [e]; exact hc
      ·exact hall j (by omega)
    ·have h' : ¬ (i : Int) < IntKind.i64.wrap ((x.kids.length : Int) - x.v) := by omega
     refine run ⟨?_⟩
     rw [(take_all (p := lettR 83) (by omega)).2 (fun j hj => hall j (by omega)), decide_eq_true c1, decide_eq_false c2]; exact rfl
   ·show [_, _, (7, i64 ((x.kids.map (D.int .i64)).length : Int)), _] = _
    rw [hml]; rfl
 ·refine run ⟨?_⟩
  have hn : x.v.toNat ≤ x.kids.length := by omega
  have w3 : IntKind.i64.wrap ((x.kids.length : Int) - x.v) = ((x.kids.length - x.v.toNat : Nat) : Int) := by rw [i64w (by omega)]; omega
  refine wq_loop (α := Nat) (fun i => x.kids.length - i) (fun i => [(3, .ptr 0 0), (4, .ptr 1 0), (7, i64 x.kids.length), (9, i64 i)]) (fun _ => [TB t, XB x]) (fun i => i ≤ x.kids.length - x.v.toNat ∧ ∀ j, j < i → lettR 83 (ks.getD j 0) = true) ?_ 0 ⟨by omega, by omega⟩ ?_ rfl
  ·rintro i ⟨hi, hall⟩
   by_cases h : i < x.kids.length - x.v.toNat
   ·have h' : (i : Int) < IntKind.i64.wrap ((x.kids.length : Int) - x.v) := by omega
    have hki := fun H => hkid i (by omega) H
    rw [← hg _ (by omega)] at hki
    have hri := fun H => ris_ev (fx := fx) (F := F) H (ks.getD i 0) 83
    cases hc : lettR 83 (ks.getD i 0) with
    | false =>
     rw [hc] at hri
     repeat' (first | refine run ⟨?_⟩ | refine ca (hki _) ?_ | refine ca (hri _) ?_ | fail)
     rw [not_all (p := lettR 83) (l := ks.take (x.kids.length - x.v.toNat)) (fun e => by rw [take_all (by omega)] at e; have := e i h; rw [hc] at this; cases this), Bool.and_false]; exact rfl
    | true =>
     rw [hc] at hri
     repeat' (first | refine run ⟨?_⟩ | refine ca (hki _) ?_ | refine ca (hri _) ?_ | fail)
     refine ⟨i + 1, ⟨by omega, fun j hj => ?_⟩, by omega, by rw [i64w (by omega)]; rfl, rfl⟩
     by_cases e : j = i
     ·rw [e]; exact hc
     ·exact hall j (by omega)
   ·have h' : ¬ (i : Int) < IntKind.i64.wrap ((x.kids.length : Int) - x.v) := by omega
    refine run ⟨?_⟩
    rw [(take_all (p := lettR 83) (by omega)).2 (fun j hj => hall j (by omega)), decide_eq_false c1]; exact rfl
  ·show [_, _, (7, i64 ((x.kids.map (D.int .i64)).length : Int)), _] = _
   rw [hml]; rfl
set_option maxHeartbeats 1000000 in
theorem rfits_go (t : List Nd) (x : Nd) (hkl : x.kids.length ≤ 1048576) (hk : ∀ k ∈ x.kids, 0 ≤ k ∧ k < t.length) (s : List UInt8) (hs1 : s ≠ [102, 110]) (hs2 : s ≠ [98, 108, 111, 99, 107]) (hst : ∀ a, s ≠ a ++ [42]) (hsl : s.length ≤ 1048576) : evF (pgL fx F) n_ref13_fits [.d (treeD t), ndV x, str s] H = some (boo (goR s (kinds t x.kids)), H) := by
 refine evF_wq (t_ref13_fits (F := F)) rfl rfl ?_ H
 have hkid := fun (i : Nat) (hi : i < x.kids.length) (H : Hp) => rkid_ev (fx := fx) (F := F) H t x i hi hk
 have hg := fun (i : Nat) (hi : i < x.kids.length) => kinds_get (t := t) hi
 have hl := kinds_len (t := t) (l := x.kids)
 have hml : (x.kids.map (D.int .i64)).length = x.kids.length := List.length_map ..
 obtain ⟨ks, hks⟩ : ∃ ks, ks = kinds t x.kids := ⟨_, rfl⟩
 rw [← hks] at hl hg ⊢
 refine run ⟨?_⟩
 refine wq_loop (α := Nat × Nat) (fun a => s.length - a.2) (fun a => [(2, str s), (3, .ptr 0 0), (4, .ptr 1 0), (7, i64 x.kids.length), (10, i64 a.1), (11, i64 a.2)]) (fun _ => [TB t, XB x]) (fun a => a.1 ≤ x.kids.length ∧ a.2 ≤ s.length ∧ goR s ks = goR (s.drop a.2) (ks.drop a.1)) ?_ (0, 0) ⟨Nat.zero_le _, Nat.zero_le _, rfl⟩ ?_ rfl
 ·rintro ⟨i, k⟩ ⟨hi, hkk, hgo⟩
  simp only at hi hkk hgo ⊢
  by_cases h : k < s.length
  ·have h' : (k : Int) < (s.length : Int) := by omega
   have hdk := List.drop_eq_getElem_cons h
   obtain ⟨c, hc⟩ : ∃ c, c = s[k] := ⟨_, rfl⟩
   rw [← hc] at hdk
   have hsk : s[k]? = some c := by rw [List.getElem?_eq_getElem h, hc]
   rw [hdk] at hgo
   by_cases c42 : c = 42
   ·subst c42
    have hk1 : k + 1 < s.length := by
     refine Nat.lt_of_not_le fun hge => hst (s.take k) ?_
     have := List.take_append_drop k s
     rw [hdk, List.drop_of_length_le hge] at this
     exact this.symm
    obtain ⟨d, hd⟩ : ∃ d, d = s[k + 1] := ⟨_, rfl⟩
    have hsd : s[k + 1]? = some d := by rw [List.getElem?_eq_getElem hk1, hd]
    rw [List.drop_eq_getElem_cons hk1, ← hd] at hgo
    have hgo : goR s ks = (ks.drop i).all (lettR d) := by rw [hgo]; simp only [goR]
    repeat' (first | refine run ⟨?_⟩ | refine pickD (d := 42) ⟨by omega, hsk⟩ ?_ | fail)
    refine wq_loop (α := Nat) (fun j => x.kids.length - j) (fun j => [(2, str s), (3, .ptr 0 0), (4, .ptr 1 0), (7, i64 x.kids.length), (10, i64 j), (11, i64 k)]) (fun _ => [TB t, XB x]) (fun j => i ≤ j ∧ j ≤ x.kids.length ∧ ∀ m, i ≤ m → m < j → lettR d (ks.getD m 0) = true) ?_ i ⟨Nat.le_refl _, hi, fun m h1 h2 => by omega⟩ rfl rfl
    rintro j ⟨ij, hj, hall⟩
    by_cases hjl : j < x.kids.length
    ·have hjl' : (j : Int) < (x.kids.length : Int) := by omega
     have hki := fun H => hkid j (by omega) H
     rw [← hg _ (by omega)] at hki
     have hri := fun H => ris_ev (fx := fx) (F := F) H (ks.getD j 0) d
     have w : IntKind.i64.wrap ((k : Int) + 1) = ((k + 1 : Nat) : Int) := by rw [i64w (by omega)]; rfl
     have pd : 0 ≤ IntKind.i64.wrap ((k : Int) + 1) ∧ s[(IntKind.i64.wrap ((k : Int) + 1)).toNat]? = some d := by rw [w]; exact ⟨by omega, hsd⟩
     cases hc : lettR d (ks.getD j 0) with
     | false =>
      rw [hc] at hri
      repeat' (first | refine run ⟨?_⟩ | refine ca (hki _) ?_ | refine ca (hri _) ?_ | refine pickD pd ?_ | fail)
      rw [hgo, not_all (p := lettR d) (l := ks.drop i) (fun e => by have := drop_all.1 e j ij (by omega); rw [hc] at this; cases this)]; exact rfl
     | true =>
      rw [hc] at hri
      repeat' (first | refine run ⟨?_⟩ | refine ca (hki _) ?_ | refine ca (hri _) ?_ | refine pickD pd ?_ | fail)
      refine ⟨j + 1, ⟨by omega, by omega, fun m h1 h2 => ?_⟩, by omega, by rw [i64w (by omega)]; rfl, rfl⟩
      by_cases e : m = j
      ·rw [e]; exact hc
      ·exact hall m h1 (by omega)
    ·have hjl' : ¬ (j : Int) < (x.kids.length : Int) := by omega
     refine run ⟨?_⟩
     rw [hgo, drop_all.2 (fun m h1 h2 => hall m h1 (by omega))]; exact rfl
   ·have n42 : ¬ (c.toNat : Int) = 42 := fun e => c42 (UInt8.toNat_inj.1 (by have e2 : (42 : UInt8).toNat = 42 := rfl; omega))
    rw [go_one c c42] at hgo
    by_cases hil : i < x.kids.length
    ·have hil' : ¬ (i : Int) = (x.kids.length : Int) := by omega
     have hki := fun H => hkid i (by omega) H
     rw [← hg _ (by omega)] at hki
     have hri := fun H => ris_ev (fx := fx) (F := F) H (ks.getD i 0) c
     have hdi : ks.drop i = ks.getD i 0 :: ks.drop (i + 1) := by
      rw [List.drop_eq_getElem_cons (by omega)]
      simp [show i < ks.length by omega]
     rw [hdi] at hgo
     simp only at hgo
     cases hc : lettR c (ks.getD i 0) with
     | false =>
      rw [hc] at hri hgo
      repeat' (first | refine run ⟨?_⟩ | refine ca (hki _) ?_ | refine ca (hri _) ?_ | refine pickD (d := c) ⟨by omega, hsk⟩ ?_ | fail)
      rw [hgo]; exact rfl
     | true =>
      rw [hc, Bool.true_and] at hgo
      rw [hc] at hri
      repeat' (first | refine run ⟨?_⟩ | refine ca (hki _) ?_ | refine ca (hri _) ?_ | refine pickD (d := c) ⟨by omega, hsk⟩ ?_ | fail)
      exact ⟨(i + 1, k + 1), ⟨by show i + 1 ≤ _; omega, by show k + 1 ≤ _; omega, hgo⟩, by show s.length - (k + 1) < s.length - k; omega, by rw [i64w (by omega), i64w (by omega)]; rfl, rfl⟩
    ·have hil' : (i : Int) = (x.kids.length : Int) := by omega
     rw [List.drop_of_length_le (by omega : ks.length ≤ i)] at hgo
     repeat' (first | refine run ⟨?_⟩ | refine pickD (d := c) ⟨by omega, hsk⟩ ?_ | fail)
     rw [hgo]; exact rfl
  ·have h' : ¬ (k : Int) < (s.length : Int) := by omega
   refine run ⟨?_⟩
   rw [hgo, List.drop_of_length_le (by omega : s.length ≤ k)]
   by_cases e : i = x.kids.length
   ·rw [List.drop_of_length_le (by omega : ks.length ≤ i)]
    show V.d (.bool (decide ((i : Int) = (x.kids.length : Int)))) = _
    rw [decide_eq_true (by omega)]; rfl
   ·show V.d (.bool (decide ((i : Int) = (x.kids.length : Int)))) = V.d (.bool (decide (ks.drop i = [])))
    rw [decide_eq_false (by omega), decide_eq_false]
    intro e2
    have := List.drop_eq_nil_iff.1 e2
    omega
 ·show [_, _, _, (7, i64 ((x.kids.map (D.int .i64)).length : Int)), _, _] = _
  rw [hml]; rfl
end
end Go.Vm.Itr
namespace Go.Vm.Itr
open Go.Vm.Ite
open Go.Vm.Tp
open Go.Vm.Lex (nameB)
set_option maxRecDepth 10000
theorem sign_in (s : List UInt8) : decide (0 < signN s) = decide (s ∈ signsL) := by
 unfold signN signsL
 by_cases c0 : s = [124, 124]
 ·subst c0; decide
 by_cases c1 : s = [38, 38]
 ·subst c1; decide
 by_cases c2 : s = [61, 61]
 ·subst c2; decide
 by_cases c3 : s = [33, 61]
 ·subst c3; decide
 by_cases c4 : s = [60]
 ·subst c4; decide
 by_cases c5 : s = [62]
 ·subst c5; decide
 by_cases c6 : s = [60, 61]
 ·subst c6; decide
 by_cases c7 : s = [62, 61]
 ·subst c7; decide
 by_cases c8 : s = [43]
 ·subst c8; decide
 by_cases c9 : s = [45]
 ·subst c9; decide
 by_cases c10 : s = [42]
 ·subst c10; decide
 by_cases c11 : s = [47]
 ·subst c11; decide
 by_cases c12 : s = [37]
 ·subst c12; decide
 simp only [c0, c1, c2, c3, c4, c5, c6, c7, c8, c9, c10, c11, c12, if_false, or_self, List.mem_cons, List.not_mem_nil]
 decide
section
variable {fx : Nat → Option Obj} {F : Nat → Option VFun} [HC F] (H : Hp)
theorem rpicked_ev (s : List UInt8) (hs : s.length ≤ 1048576) : evF (pgL fx F) n_ref13_picked [str s] H = some (boo ((cutT s).2.2 && nameB (cutT s).1 && nameB (cutT s).2.1), H) := by
 have _u := (inferInstance : HC F)
 refine evF_wq (t_ref13_picked (F := F)) rfl rfl ?_ H
 refine run ⟨?_⟩
 refine wq_loop (α := Nat) (fun i => s.length - i) (fun i => [(0, str s), (3, i64 i)]) (fun _ => []) (fun i => i ≤ s.length ∧ Lib.NoOcc s [58, 58] i) ?_ 0 ⟨Nat.zero_le _, fun j h => absurd h (Nat.not_lt_zero _)⟩ rfl rfl
 rintro i ⟨hi, hno⟩
 have w1 : IntKind.i64.wrap ((i : Int) + 1) = ((i + 1 : Nat) : Int) := by rw [i64w (by omega)]; rfl
 have w2 : IntKind.i64.wrap ((i : Int) + 2) = ((i + 2 : Nat) : Int) := by rw [i64w (by omega)]; rfl
 by_cases h : i + 1 < s.length
 ·have h' : IntKind.i64.wrap ((i : Int) + 1) < (s.length : Int) := by omega
  have p0 : (0 : Int) ≤ IntKind.i64.wrap ((i : Int) + 2) := by omega
  have p1 : (i : Int).toNat ≤ (IntKind.i64.wrap ((i : Int) + 2)).toNat ∧ (IntKind.i64.wrap ((i : Int) + 2)).toNat ≤ s.length := by omega
  have ho := occ2 s i
  have ho' : decide (List.drop (i : Int).toNat (List.take (IntKind.i64.wrap ((i : Int) + 2)).toNat s) = [58, 58]) = Lib.occAt s [58, 58] i := by rw [w2]; exact ho
  have i0 : (0 : Int) ≤ (i : Int) := by omega
  cases hc : Lib.occAt s [58, 58] i with
  | true =>
   rw [hc] at ho'
   have hcut := cut_hit hno (by omega) hc
   have e1 : List.drop 0 (List.take (i : Int).toNat s) = s.take i := by rw [List.drop_zero]; rfl
   have e2 : List.drop (IntKind.i64.wrap ((i : Int) + 2)).toNat (List.take s.length s) = s.drop (i + 2) := by rw [List.take_length, w2]; rfl
   have q1 : 0 ≤ (i : Int).toNat ∧ (i : Int).toNat ≤ s.length := by omega
   have q2 : (IntKind.i64.wrap ((i : Int) + 2)).toNat ≤ s.length ∧ s.length ≤ s.length := by omega
   have n1 := fun H => rname_ev (fx := fx) (F := F) H (s.take i) (by have := List.length_take_le i s; unfold maxLen; omega)
   have n2 := fun H => rname_ev (fx := fx) (F := F) H (s.drop (i + 2)) (by have : (s.drop (i + 2)).length ≤ s.length := (by simp); unfold maxLen; omega)
   rw [hcut]
   simp only [Bool.true_and]
   cases hn : nameB (s.take i) with
   | false =>
    rw [hn, ← e1] at n1
    repeat' (first | refine run ⟨?_⟩ | refine And.intro i0 ?_ | refine And.intro p0 ?_ | refine And.intro p1 ?_ | refine and_t ho' ?_ | refine And.intro q1 ?_ | refine ca (n1 _) ?_ | fail)
    exact rfl
   | true =>
    rw [hn, ← e1] at n1
    cases hm : nameB (s.drop (i + 2)) with
    | false =>
     rw [hm, ← e2] at n2
     repeat' (first | refine run ⟨?_⟩ | refine And.intro i0 ?_ | refine And.intro p0 ?_ | refine And.intro p1 ?_ | refine and_t ho' ?_ | refine And.intro q1 ?_ | refine ca (n1 _) ?_ | refine And.intro q2 ?_ | refine ca (n2 _) ?_ | fail)
     exact rfl
    | true =>
     rw [hm, ← e2] at n2
     repeat' (first | refine run ⟨?_⟩ | refine And.intro i0 ?_ | refine And.intro p0 ?_ | refine And.intro p1 ?_ | refine and_t ho' ?_ | refine And.intro q1 ?_ | refine ca (n1 _) ?_ | refine And.intro q2 ?_ | refine ca (n2 _) ?_ | fail)
     exact rfl
  | false =>
   rw [hc] at ho'
   repeat' (first | refine run ⟨?_⟩ | refine And.intro i0 ?_ | refine And.intro p0 ?_ | refine And.intro p1 ?_ | refine and_f ho' ?_ | fail)
   refine ⟨i + 1, ⟨by omega, fun j hj => ?_⟩, by omega, by rw [w1], rfl⟩
   by_cases e : j = i
   ·rw [e]; exact hc
   ·exact hno j (by omega)
 ·have h' : ¬ IntKind.i64.wrap ((i : Int) + 1) < (s.length : Int) := by omega
  refine run ⟨?_⟩
  rw [cut_miss hno (by omega)]; exact rfl
theorem rnamed_ev (x : Nd) (hx : x.t.length ≤ 1048576) : evF (pgL fx F) n_ref13_named [ndV x] H = some (boo (nmB x.k x.t), H) := by
 obtain ⟨k, t, v, kids, f, e⟩ := x
 simp only at hx ⊢
 refine evF_wq (t_ref13_named (F := F)) rfl rfl ?_ H
 have hn := fun H => rname_ev (fx := fx) (F := F) H t (by unfold maxLen; omega)
 by_cases hA : k = 2 ∨ k = 3 ∨ k = 4 ∨ k = 5 ∨ k = 6 ∨ k = 7 ∨ k = 13 ∨ k = 21 ∨ k = 33 ∨ k = 34 ∨ k = 35 ∨ k = 36 ∨ k = 41 ∨ k = 51
 ·have e0 : nmB k t = nameB t := by unfold nmB; rw [if_pos hA]
  rw [e0]
  rcases hA with rfl | rfl | rfl | rfl | rfl | rfl | rfl | rfl | rfl | rfl | rfl | rfl | rfl | rfl
  all_goals
   repeat' (first | refine run ⟨?_⟩ | refine ca (hn _) ?_ | fail)
   exact rfl
 have e1 : nmB k t = if k = 37 ∨ k = 54 then (cutT t).2.2 && nameB (cutT t).1 && nameB (cutT t).2.1 else if k = 38 then decide (t ∈ signsL) else decide (t = []) := by unfold nmB; exact if_neg hA
 rw [e1]
 clear e1
 simp only [not_or] at hA
 obtain ⟨a2, a3, a4, a5, a6, a7, a13, a21, a33, a34, a35, a36, a41, a51⟩ := hA
 by_cases hB : k = 37 ∨ k = 54
 ·rw [if_pos hB]
  have hp := fun H => rpicked_ev (fx := fx) (F := F) H t hx
  rcases hB with rfl | rfl
  all_goals
   repeat' (first | refine run ⟨?_⟩ | refine ca (hp _) ?_ | fail)
   exact rfl
 rw [if_neg hB]
 simp only [not_or] at hB
 obtain ⟨b1, b2⟩ := hB
 by_cases hC : k = 38
 ·subst hC
  repeat' (first | refine run ⟨?_⟩ | refine ca (rsign_ev _ _) ?_ | fail)
  rw [if_pos rfl, ← sign_in]
  exact rfl
 rw [if_neg hC]
 refine run ⟨?_⟩
 exact rfl
end
end Go.Vm.Itr
namespace Go.Vm.Itr
open Go.Vm.Ite
open Go.Vm.Tp
set_option maxRecDepth 10000
theorem forms_ok {k : Int} {s : List UInt8} (h : s ∈ formsR k) : (∀ a, s ≠ a ++ [42]) ∧ s.length ≤ 1048576 := by
 have key : ∀ l : List (List UInt8), (l.all fun s => decide (s.getLast? ≠ some 42) && decide (s.length ≤ 1048576)) = true → s ∈ l → (∀ a, s ≠ a ++ [42]) ∧ s.length ≤ 1048576 := by
   intro l hl hm
   have := List.all_eq_true.1 hl s hm
   simp only [Bool.and_eq_true, decide_eq_true_eq] at this
   refine ⟨fun a e => this.1 ?_, this.2⟩
   rw [e]; simp
 refine key _ ?_ h
 clear h key
 unfold formsR
 repeat' refine ite_ind (P := fun l : List (List UInt8) => (l.all fun s => decide (s.getLast? ≠ some 42) && decide (s.length ≤ 1048576)) = true) ?_ ?_
 all_goals decide
theorem forms_20 {k : Int} (h : [98, 108, 111, 99, 107] ∈ formsR k) : k = 20 := by
 refine Decidable.byContradiction fun hk => ?_
 revert h
 have key : ∀ l : List (List UInt8), (l.all fun s => decide (s ≠ [98, 108, 111, 99, 107])) = true → ¬ [98, 108, 111, 99, 107] ∈ l := by
   intro l hl hm
   have := List.all_eq_true.1 hl _ hm
   simp at this
 refine key _ ?_
 clear key
 unfold formsR
 simp only [hk, if_false]
 repeat' refine ite_ind (P := fun l : List (List UInt8) => (l.all fun s => decide (s ≠ [98, 108, 111, 99, 107])) = true) ?_ ?_
 all_goals decide
theorem forms_len (k : Int) : (formsR k).length ≤ 2 := by
 unfold formsR
 repeat' refine ite_ind (P := fun l : List (List UInt8) => l.length ≤ 2) ?_ ?_
 all_goals decide
section
variable {fx : Nat → Option Obj} {F : Nat → Option VFun} [HC F] (H : Hp)
theorem rfits_ev (t : List Nd) (x : Nd) (hkl : x.kids.length ≤ 1048576) (hk : ∀ k ∈ x.kids, 0 ≤ k ∧ k < t.length) (hc : countR x.k x.v = true) (s : List UInt8) (hs : s ∈ formsR x.k) : evF (pgL fx F) n_ref13_fits [.d (treeD t), ndV x, str s] H = some (boo (fitsR x.v (kinds t x.kids) s), H) := by
 unfold fitsR
 by_cases c1 : s = [102, 110]
 ·subst c1; rw [if_pos rfl]; exact rfits_fn H t x hkl hk
 rw [if_neg c1]
 by_cases c2 : s = [98, 108, 111, 99, 107]
 ·subst c2; rw [if_pos rfl]
  have h20 := forms_20 hs
  rw [h20] at hc
  have : (decide (x.v = 0) || decide (x.v = 1)) = true := hc
  exact rfits_block H t x hkl hk (by simpa using this)
 rw [if_neg c2]
 obtain ⟨h1, h2⟩ := forms_ok hs
 exact rfits_go H t x hkl hk s c1 c2 h1 h2
set_option maxHeartbeats 2000000 in
theorem rnode_ev (t : List Nd) (hf : Fine t) (i : Nat) (hi : i < t.length) : evF (pgL fx F) n_ref13_node [.d (treeD t), i64 i] H = some (boo (nodeR t i), H) := by
 refine evF_wq (t_ref13_node (F := F)) rfl rfl ?_ H
 have htl := hf.len
 have hg := ndD_at (t := t) (k := (i : Int)) (by omega) (by omega)
 have hmem := nd_mem hi
 have hkl := hf.kid _ hmem
 have htx := hf.txt _ hmem
 show enterK 0 _ fun e => WQ _ _ _ _ _ _ (retK _ _ fun v _ => v = boo (knownB (nd t i).k && (nmB (nd t i).k (nd t i).t && (countR (nd t i).k (nd t i).v && (decide (0 ≤ (nd t i).f) && (decide ((nd t i).f ≤ (nd t i).e) && ((nd t i).kids.all (kidOk i) && (formsR (nd t i).k).any (fitsR (nd t i).v (kinds t (nd t i).kids)))))))))
 change 0 ≤ (i : Int) ∧ (t.map Nd.D)[(i : Int).toNat]? = some (nd t i).D at hg
 obtain ⟨x, hx⟩ : ∃ x, x = nd t i := ⟨_, rfl⟩
 rw [← hx] at hg hkl htx ⊢
 clear hx hmem
 have e1 := fun H => rknown_ev (fx := fx) (F := F) H x.k
 have e2 := fun H => rnamed_ev (fx := fx) (F := F) H x htx
 have e3 := fun H => rcounted_ev (fx := fx) (F := F) H x
 cases c1 : knownB x.k with
 | false =>
  rw [c1] at e1
  repeat' (first | refine run ⟨?_⟩ | refine pickD hg ?_ | refine ca (e1 _) ?_ | fail)
  exact rfl
 | true =>
 rw [c1] at e1
 cases c2 : nmB x.k x.t with
 | false =>
  rw [c2] at e2
  repeat' (first | refine run ⟨?_⟩ | refine pickD hg ?_ | refine ca (e1 _) ?_ | refine ca (e2 _) ?_ | fail)
  exact rfl
 | true =>
 rw [c2] at e2
 cases c3 : countR x.k x.v with
 | false =>
  rw [c3] at e3
  repeat' (first | refine run ⟨?_⟩ | refine pickD hg ?_ | refine ca (e1 _) ?_ | refine ca (e2 _) ?_ | refine ca (e3 _) ?_ | fail)
  exact rfl
 | true =>
 rw [c3] at e3
 by_cases c4 : x.f < 0
 ·repeat' (first | refine run ⟨?_⟩ | refine pickD hg ?_ | refine ca (e1 _) ?_ | refine ca (e2 _) ?_ | refine ca (e3 _) ?_ | fail)
  rw [decide_eq_false (by omega : ¬ 0 ≤ x.f)]; exact rfl
 by_cases c5 : x.e < x.f
 ·repeat' (first | refine run ⟨?_⟩ | refine pickD hg ?_ | refine ca (e1 _) ?_ | refine ca (e2 _) ?_ | refine ca (e3 _) ?_ | fail)
  rw [decide_eq_true (by omega : 0 ≤ x.f), decide_eq_false (by omega : ¬ x.f ≤ x.e)]; exact rfl
 repeat' (first | refine run ⟨?_⟩ | refine pickD hg ?_ | refine ca (e1 _) ?_ | refine ca (e2 _) ?_ | refine ca (e3 _) ?_ | fail)
 rw [decide_eq_true (by omega : 0 ≤ x.f), decide_eq_true (by omega : x.f ≤ x.e)]
 simp only [Bool.true_and]
 refine wq_loop (α := Nat) (fun j => x.kids.length - j) (fun j => [(1, i64 i), (2, .ptr 0 0), (5, .ptr 1 0), (42, ints x.kids), (43, i64 x.kids.length), (44, i64 j)]) (fun _ => [TB t, XB x]) (fun j => j ≤ x.kids.length ∧ ∀ k ∈ x.kids.take j, kidOk i k = true) ?_ 0 ⟨Nat.zero_le _, by simp⟩ ?_ rfl
 ·rintro j ⟨hj, hall⟩
  by_cases h : j < x.kids.length
  ·have h' : (j : Int) < (x.kids.length : Int) := by omega
   have pj : 0 ≤ (j : Int) ∧ (x.kids.map (D.int .i64))[(j : Int).toNat]? = some (.int .i64 (x.kids.getD j 0)) := ⟨by omega, gK h⟩
   have ej : x.kids.getD j 0 = x.kids[j] := by simp [h]
   have bad : kidOk i (x.kids.getD j 0) = false → x.kids.all (kidOk i) = false := fun hb => not_all fun hc => by
     have := List.all_eq_true.1 hc _ (List.getElem_mem h); rw [← ej, hb] at this; cases this
   by_cases k0 : x.kids.getD j 0 < 0
   ·repeat' (first | refine run ⟨?_⟩ | refine pickD pj ?_ | fail)
    rw [bad (by unfold kidOk; rw [decide_eq_false (by omega)]; rfl)]; exact rfl
   by_cases k1 : (i : Int) ≤ x.kids.getD j 0
   ·repeat' (first | refine run ⟨?_⟩ | refine pickD pj ?_ | fail)
    rw [bad (by unfold kidOk; rw [decide_eq_false (by omega : ¬ x.kids.getD j 0 < (i : Int)), Bool.and_false])]; exact rfl
   repeat' (first | refine run ⟨?_⟩ | refine pickD pj ?_ | fail)
   refine ⟨j + 1, ⟨by omega, fun k hk => ?_⟩, by omega, by rw [i64w (by omega)]; rfl, rfl⟩
   rw [List.take_add_one, List.getElem?_eq_getElem h, List.mem_append] at hk
   rcases hk with hk | hk
   ·exact hall k hk
   ·have : k = x.kids.getD j 0 := by rw [ej]; simpa using hk
    rw [this]; unfold kidOk; rw [decide_eq_true (by omega), decide_eq_true (by omega)]; rfl
  ·have h' : ¬ (j : Int) < (x.kids.length : Int) := by omega
   rw [List.take_of_length_le (by omega)] at hall
   rw [List.all_eq_true.2 hall, Bool.true_and]
   have hk : ∀ k ∈ x.kids, 0 ≤ k ∧ k < t.length := fun k hk => by
     have := hall k hk
     simp only [kidOk, Bool.and_eq_true, decide_eq_true_eq] at this
     omega
   have ef := fun s hs H => rfits_ev (fx := fx) (F := F) H t x hkl hk c3 s hs
   have ei := fun H => rforms_ev (fx := fx) (F := F) H x
   have hfl := forms_len x.k
   have hml : ((formsR x.k).map D.str).length = (formsR x.k).length := List.length_map ..
   obtain ⟨l, hle⟩ : ∃ l, l = formsR x.k := ⟨_, rfl⟩
   rw [← hle] at ef ei hfl hml ⊢
   clear hle e1 e2 e3
   repeat' (first | refine run ⟨?_⟩ | refine ca (ei _) ?_ | fail)
   refine wq_loop (α := Nat) (fun a => l.length - a) (fun a => [(2, .ptr 0 0), (5, .ptr 1 0), (57, .d (.sl (l.map .str))), (58, i64 l.length), (59, i64 a)]) (fun _ => [TB t, XB x]) (fun a => a ≤ l.length ∧ ∀ s ∈ l.take a, fitsR x.v (kinds t x.kids) s = false) ?_ 0 ⟨Nat.zero_le _, by simp⟩ ?_ rfl
   ·rintro a ⟨ha, hno⟩
    by_cases h2 : a < l.length
    ·have h2' : (a : Int) < (l.length : Int) := by omega
     have pa : 0 ≤ (a : Int) ∧ (l.map D.str)[(a : Int).toNat]? = some (.str (l.getD a [])) := ⟨by omega, by rw [List.getElem?_map, Int.toNat_natCast, get_getD h2 []]; rfl⟩
     have ea : l.getD a [] = l[a] := by simp [h2]
     have hfa := ef (l.getD a []) (by rw [ea]; exact List.getElem_mem _)
     cases hc : fitsR x.v (kinds t x.kids) (l.getD a []) with
     | true =>
      rw [hc] at hfa
      repeat' (first | refine run ⟨?_⟩ | refine pickD pa ?_ | refine ca (hfa _) ?_ | fail)
      rw [List.any_eq_true.2 ⟨l[a], List.getElem_mem _, by rw [← ea]; exact hc⟩]; exact rfl
     | false =>
      rw [hc] at hfa
      repeat' (first | refine run ⟨?_⟩ | refine pickD pa ?_ | refine ca (hfa _) ?_ | fail)
      refine ⟨a + 1, ⟨by omega, fun s hs => ?_⟩, by omega, by rw [i64w (by omega)]; rfl, rfl⟩
      rw [List.take_add_one, List.getElem?_eq_getElem h2, List.mem_append] at hs
      rcases hs with hs | hs
      ·exact hno s hs
      ·have : s = l.getD a [] := by rw [ea]; simpa using hs
       rw [this]; exact hc
    ·have h2' : ¬ (a : Int) < (l.length : Int) := by omega
     rw [List.take_of_length_le (by omega)] at hno
     refine run ⟨?_⟩
     have : l.any (fitsR x.v (kinds t x.kids)) = false := List.any_eq_false.2 fun s hs => by rw [hno s hs]; simp
     rw [this]; exact rfl
   ·show [_, _, _, (58, i64 ((l.map D.str).length : Int)), _] = _
    rw [hml]; rfl
 ·show [_, _, _, _, (43, i64 ((x.kids.map (D.int .i64)).length : Int)), _] = _
  rw [List.length_map]; rfl
end
end Go.Vm.Itr


namespace Go.Vm.Itr
open Go.Vm.Ite
open Go.Vm.Tp
set_option maxRecDepth 10000
def mx : List Int → Int
 | [] => 0
 | a :: r => if mx r < a then a else mx r
theorem mx_eq : ∀ (r : List Int) (a : Int), 0 ≤ a → maxL (a :: r) = max a (mx r)
 | [], a, h => by simp only [maxL, List.foldl_nil, mx]; omega
 | b :: r, a, h => by
   have e : maxL (a :: b :: r) = maxL (max a b :: r) := rfl
   rw [e, mx_eq r (max a b) (by omega)]
   simp only [mx]
   split <;> omega
theorem maxL_mx {l : List Int} (h : ∀ (j : Nat) (v : Int), l[j]? = some v → 0 ≤ v) (hl : 1 ≤ l.length) : maxL l = mx l := by
 cases l with
 | nil => simp at hl
 | cons a r =>
  rw [mx_eq r a (h 0 a rfl)]
  simp only [mx]; split <;> omega
theorem ups_last {t : List Nd} {up : List Int} (h : ups t = some up) (hk : KidsOk t) (h1 : 1 ≤ t.length) : up.getD (t.length - 1) (-1) = -1 := by
 have hl := ups_facts h
 have hkp : ∀ x ∈ t, ∀ k ∈ x.kids, 0 ≤ k := by
  intro x hx k hm
  obtain ⟨i, hi, rfl⟩ := List.getElem_of_mem hx
  have := List.all_eq_true.1 (hk i hi) k (by simpa [nd, hi] using hm)
  simp only [kidOk, Bool.and_eq_true, decide_eq_true_eq] at this
  exact this.1
 have hr := hl.2 (t.length - 1) (up.getD (t.length - 1) (-1)) (get_getD (by omega) _)
 by_cases hj : 0 ≤ up.getD (t.length - 1) (-1)
 ·obtain ⟨a, b⟩ := ups_mem h hkp _ hj
  have := List.all_eq_true.1 (hk (up.getD (t.length - 1) (-1)).toNat (by omega)) _ b
  simp only [kidOk, Bool.and_eq_true, decide_eq_true_eq] at this
  omega
 ·omega
theorem no_neg {t : List Nd} {up : List Int} (h : ups t = some up) : up.dropLast.contains (-1) = false ↔ ∀ j, j + 1 < up.length → 0 ≤ up.getD j 0 := by
 have hl := ups_facts h
 constructor
 ·intro hc j hj
  have hr := hl.2 j (up.getD j 0) (get_getD (by omega) 0)
  refine Decidable.byContradiction fun hn => ?_
  have e : up.getD j 0 = -1 := by omega
  have hm : (-1 : Int) ∈ up.dropLast := by
   rw [← e, List.getD_eq_getElem?_getD, List.getElem?_eq_getElem (by omega : j < up.length), Option.getD_some]
   rw [List.dropLast_eq_take]
   exact List.mem_take_iff_getElem.2 ⟨j, by omega, rfl⟩
  rw [← List.contains_iff_mem, hc] at hm; cases hm
 ·intro ha
  cases hb : up.dropLast.contains (-1) with
  | false => rfl
  | true =>
   rw [List.contains_iff_mem, List.dropLast_eq_take] at hb
   obtain ⟨j, hj, e⟩ := List.mem_take_iff_getElem.1 hb
   have := ha j (by omega)
   rw [List.getD_eq_getElem?_getD, List.getElem?_eq_getElem (by omega : j < up.length), Option.getD_some, e] at this
   omega
section
variable {fx : Nat → Option Obj} {F : Nat → Option VFun} [HC F] (H : Hp)
set_option maxHeartbeats 4000000 in
theorem rparents_ev (t : List Nd) (hf : Fine t) (hk : KidsOk t) : evF (pgL fx F) n_ref13_parents [.d (treeD t)] H = some (match ups t with | none => .tup [.d (.sl []), boo false] | some up => if up.dropLast.contains (-1) = true then .tup [.d (.sl []), boo false] else .tup [ints up, boo true], H) := by
  have _u := (inferInstance : HC F)
  refine evF_wq (t_ref13_parents (F := F)) rfl rfl ?_ H
  have htl := hf.len
  have hnl : (t.map Nd.D).length = t.length := List.length_map ..
  have hmsl : 0 ≤ ((t.map Nd.D).length : Int) ∧ roomy ((t.map Nd.D).length : Int).toNat 8 := ⟨by omega, by unfold roomy; omega⟩
  repeat' (first | refine run ⟨?_⟩ | refine And.intro hmsl ?_ | fail)
  refine wq_loop (α := Nat) (fun i => t.length - i) (fun i => [(1, .ptr 0 0), (4, .arr 1 0 t.length), (16, i64 t.length), (17, i64 i)])
    (fun i => [TB t, .box (arrI (List.replicate i (-1) ++ List.replicate (t.length - i) 0))]) (fun i => i ≤ t.length) ?_ 0 (by omega) ?_ ?_
  ·intro i hi
   by_cases h : i < t.length
   ·have h' : (i : Int) < (t.length : Int) := by omega
    refine run ⟨?_⟩
    refine And.intro ⟨by omega, by omega⟩ ?_
    refine st_of (by simp; omega) ?_
    refine run ⟨?_⟩
    refine ⟨i + 1, by omega, by omega, ?_, ?_⟩
    ·rw [i64w (by omega)]; rfl
    ·have e : (List.replicate i (-1 : Int) ++ List.replicate (t.length - i) 0).set i (-1) = List.replicate (i + 1) (-1) ++ List.replicate (t.length - (i + 1)) 0 := by
      rw [List.set_append_right _ _ (by simp), List.length_replicate, Nat.sub_self, show t.length - i = (t.length - (i + 1)) + 1 by omega, List.replicate_succ, List.set_cons_zero, List.replicate_succ', List.append_assoc]; rfl
     have e2 := arrI_put (l := List.replicate i (-1 : Int) ++ List.replicate (t.length - i) 0) (i := i) (by simp; omega) (-1)
     rw [e] at e2
     show [_, Ob.box (putAt _ (0 + i * 1) _)] = _
     rw [Nat.zero_add, Nat.mul_one, e2]
   ·have h' : ¬ (i : Int) < (t.length : Int) := by omega
    obtain rfl : i = t.length := by omega
    rw [Nat.sub_self, List.replicate_zero, List.append_nil]
    refine run ⟨?_⟩
    refine wq_loop (α := Nat × List Int) (fun a => t.length - a.1) (fun a => [(4, .arr 1 0 t.length), (25, .d (.sl (t.map Nd.D))), (26, i64 t.length), (27, i64 a.1)])
      (fun a => [TB t, .box (arrI a.2)]) (fun a => a.1 ≤ t.length ∧ a.2.length = t.length ∧ upAll a.1 (t.drop a.1) a.2 = ups t) ?_ (0, List.replicate t.length (-1)) ⟨by omega, by simp, rfl⟩ ?_ ?_
    ·rintro ⟨i, out⟩ ⟨hi, hol, hup⟩
     simp only at hi hol hup ⊢
     by_cases h : i < t.length
     ·have h' : (i : Int) < (t.length : Int) := by omega
      obtain ⟨x, hxe⟩ : ∃ x, x = nd t i := ⟨_, rfl⟩
      have hx : x ∈ t := by rw [hxe]; exact nd_mem h
      have hkl := hf.kid x hx
      have hko : x.kids.all (kidOk i) = true := by rw [hxe]; exact hk i h
      have hdr : t.drop i = x :: t.drop (i + 1) := by rw [hxe, List.drop_eq_getElem_cons h]; congr 1; simp [nd, h]
      rw [hdr] at hup
      simp only [upAll] at hup
      have pi : 0 ≤ (i : Int) ∧ (t.map Nd.D)[(i : Int).toNat]? = some x.D := by rw [hxe]; exact ndD_at (k := (i : Int)) (by omega) (by omega)
      repeat' (first | refine run ⟨?_⟩ | refine pickD pi ?_ | fail)
      refine wq_loop (α := Nat × List Int) (fun a => x.kids.length - a.1) (fun a => [(4, .arr 1 0 t.length), (6, i64 i), (25, .d (.sl (t.map Nd.D))), (26, i64 t.length), (27, i64 i), (33, ints x.kids), (34, i64 x.kids.length), (35, i64 a.1)])
        (fun a => [TB t, .box (arrI a.2), XB x]) (fun a => a.1 ≤ x.kids.length ∧ a.2.length = t.length ∧ upKids i (x.kids.drop a.1) a.2 = upKids i x.kids out) ?_ (0, out) ⟨by omega, hol, rfl⟩ ?_ rfl
      ·rintro ⟨j, o⟩ ⟨hj, hoj, hupj⟩
       simp only at hj hoj hupj ⊢
       by_cases h2 : j < x.kids.length
       ·have h2' : (j : Int) < (x.kids.length : Int) := by omega
        have hkj := List.all_eq_true.1 hko _ (List.getElem_mem h2)
        simp only [kidOk, Bool.and_eq_true, decide_eq_true_eq] at hkj
        rw [List.drop_eq_getElem_cons h2] at hupj
        simp only [upKids] at hupj
        have hkn : x.kids[j].toNat < o.length := by omega
        have pj : 0 ≤ (j : Int) ∧ (x.kids.map (D.int .i64))[(j : Int).toNat]? = some (.int .i64 x.kids[j]) := ⟨by omega, by rw [List.getElem?_map, Int.toNat_natCast, List.getElem?_eq_getElem h2]; rfl⟩
        have pb : 0 ≤ x.kids[j] ∧ x.kids[j].toNat < t.length := by omega
        by_cases hc : 0 ≤ o.getD x.kids[j].toNat 0
        ·rw [if_pos hc] at hupj
         rw [← hupj] at hup
         rw [← hup]
         repeat' (first | refine run ⟨?_⟩ | refine pickD pj ?_ | refine And.intro pb ?_ | refine nthK_of (arrI_at hkn) ?_ | fail)
         exact rfl
        ·rw [if_neg hc] at hupj
         repeat' (first | refine run ⟨?_⟩ | refine pickD pj ?_ | refine And.intro pb ?_ | refine nthK_of (arrI_at hkn) ?_ | fail)
         refine st_of (by simp; omega) ?_
         refine run ⟨?_⟩
         refine ⟨(j + 1, o.set x.kids[j].toNat i), ⟨by show j + 1 ≤ _; omega, by simp [hoj], hupj⟩, by show _ - (j + 1) < _ - j; omega, ?_, ?_⟩
         ·rw [i64w (by omega)]; rfl
         ·show [_, Ob.box (putAt _ (0 + _ * 1) _), _] = _
          rw [Nat.zero_add, Nat.mul_one, arrI_put hkn]
       ·have h2' : ¬ (j : Int) < (x.kids.length : Int) := by omega
        rw [List.drop_of_length_le (by omega)] at hupj
        simp only [upKids] at hupj
        rw [← hupj] at hup
        refine run ⟨?_⟩
        refine ⟨(i + 1, o), ⟨by show i + 1 ≤ _; omega, hoj, hup⟩, by show _ - (i + 1) < _ - i; omega, ?_, rfl⟩
        rw [i64w (by omega)]; rfl
      ·show [_, _, _, _, _, _, (34, i64 ((x.kids.map (D.int .i64)).length : Int)), _] = _
       rw [List.length_map]; rfl
     ·have h' : ¬ (i : Int) < (t.length : Int) := by omega
      rw [List.drop_of_length_le (by omega)] at hup
      simp only [upAll] at hup
      have hup := hup.symm
      rw [hup]
      simp only
      refine run ⟨?_⟩
      refine wq_loop (α := Nat) (fun a => t.length - a) (fun a => [(4, .arr 1 0 t.length), (10, i64 a)]) (fun _ => [TB t, .box (arrI out)]) (fun a => a ≤ t.length ∧ ∀ j, j < a → 0 ≤ out.getD j 0) ?_ 0 ⟨by omega, by omega⟩ rfl rfl
      rintro a ⟨ha, hall⟩
      have w1 : IntKind.i64.wrap ((a : Int) + 1) = ((a + 1 : Nat) : Int) := by rw [i64w (by omega)]; rfl
      by_cases h3 : a + 1 < t.length
      ·have h3' : IntKind.i64.wrap ((a : Int) + 1) < (t.length : Int) := by omega
       have pb : 0 ≤ (a : Int) ∧ (a : Int).toNat < t.length := by omega
       have hao : a < out.length := by omega
       by_cases hc : out.getD a 0 < 0
       ·have : out.dropLast.contains (-1) = true := by
         cases hb : out.dropLast.contains (-1) with
         | true => rfl
         | false => have := (no_neg hup).1 hb a (by omega); omega
        rw [if_pos this]
        repeat' (first | refine run ⟨?_⟩ | refine And.intro pb ?_ | refine nthK_of (arrI_at hao) ?_ | fail)
        exact rfl
       ·repeat' (first | refine run ⟨?_⟩ | refine And.intro pb ?_ | refine nthK_of (arrI_at hao) ?_ | fail)
        refine ⟨a + 1, ⟨by omega, fun j hj => ?_⟩, by omega, by rw [w1], rfl⟩
        by_cases e : j = a
        ·rw [e]; omega
        ·exact hall j (by omega)
      ·have h3' : ¬ IntKind.i64.wrap ((a : Int) + 1) < (t.length : Int) := by omega
       have hdl : (out.map (D.int .i64)).length = t.length := by rw [List.length_map, hol]
       have hds : List.take t.length (List.drop 0 (out.map (D.int .i64))) = out.map (D.int .i64) := by rw [List.drop_zero, ← hdl, List.take_length]
       have hno : out.dropLast.contains (-1) = false := (no_neg hup).2 fun j hj => hall j (by omega)
       rw [if_neg (by rw [hno]; simp)]
       repeat' (first | refine run ⟨?_⟩ | refine fz (arrI_allD out) ?_ | fail)
       refine And.intro (by omega) ?_
       show _ = _
       rw [hds]; rfl
    ·show [_, _, (26, i64 ((t.map Nd.D).length : Int)), _] = _
     rw [hnl]; rfl
    ·rfl
  ·show [_, (4, .arr 1 0 ((t.map Nd.D).length : Int).toNat), (16, i64 (((t.map Nd.D).length : Int).toNat : Int)), _] = _
   rw [hnl]; rfl
  ·show [_, Ob.box (List.replicate ((t.map Nd.D).length : Int).toNat _)] = _
   simp [hnl]
end
end Go.Vm.Itr
namespace Go.Vm.Itr
open Go.Vm.Ite
open Go.Vm.Tp
set_option maxRecDepth 10000
theorem depGo_pos (up : List Int) : ∀ (n : Nat) (out : List Int), (∀ (j : Nat) (v : Int), out[j]? = some v → 0 ≤ v) → ∀ (j : Nat) (v : Int), (depGo up n out)[j]? = some v → 0 ≤ v
 | 0, out, h => h
 | n + 1, out, h => by
   simp only [depGo]
   refine depGo_pos up n _ fun j v hv => ?_
   split at hv
   ·rw [List.getElem?_set] at hv
    split at hv
    ·split at hv
     ·cases hv
      have : 0 ≤ out.getD (up.getD n 0).toNat 0 := by
       rw [List.getD_eq_getElem?_getD]
       cases hg : out[(up.getD n 0).toNat]? with
       | none => exact Int.le_refl _
       | some w => exact h _ _ hg
      omega
     ·cases hv
    ·exact h j v hv
   ·exact h j v hv
theorem deps_pos (up : List Int) : ∀ (j : Nat) (v : Int), (deps up)[j]? = some v → 0 ≤ v :=
 depGo_pos up _ _ fun j v hv => by
   rw [List.getElem?_replicate] at hv
   split at hv
   ·cases hv; exact Int.le_refl _
   ·cases hv
section
variable {fx : Nat → Option Obj} {F : Nat → Option VFun} [HC F] (H : Hp)
set_option maxHeartbeats 4000000 in
theorem rdeep_ev (t : List Nd) (up : List Int) (h1 : 1 ≤ up.length) (hl : up.length ≤ 1048576) (hlast : up.getD (up.length - 1) (-1) = -1) (hin : ∀ j, j + 1 < up.length → 0 ≤ up.getD j 0 ∧ up.getD j 0 < up.length) : evF (pgL fx F) n_ref13_deep [.d (treeD t), ints up] H = some (i64 (maxL (deps up)), H) := by
 have _u := (inferInstance : HC F)
 refine evF_wq (t_ref13_deep (F := F)) rfl rfl ?_ H
 have hnl : (up.map (D.int .i64)).length = up.length := List.length_map ..
 have hmsl : 0 ≤ ((up.map (D.int .i64)).length : Int) ∧ roomy ((up.map (D.int .i64)).length : Int).toNat 8 := ⟨by omega, by unfold roomy; omega⟩
 repeat' (first | refine run ⟨?_⟩ | refine And.intro hmsl ?_ | fail)
 refine wq_loop (α := Nat × List Int × Int) (fun a => a.1) (fun a => [(1, ints up), (5, i64 a.2.2), (6, .arr 1 0 up.length), (7, i64 ((a.1 : Int) - 1))]) (fun a => [TB t, .box (arrI a.2.1)])
   (fun a => a.1 + 1 ≤ up.length ∧ a.2.1.length = up.length ∧ depGo up a.1 a.2.1 = deps up ∧ a.2.2 = mx (a.2.1.drop a.1) ∧ ∀ (j : Nat) (v : Int), a.2.1[j]? = some v → 0 ≤ v ∧ v ≤ 1048576 - a.1) ?_ (up.length - 1, List.replicate up.length 0, 0) ⟨by show up.length - 1 + 1 ≤ _; omega, by simp, ?_, ?_, fun j v hv => ?_⟩ ?_ ?_
 ·rintro ⟨n, out, most⟩ ⟨hn, hol, hdp, hm, hbd⟩
  simp only at hn hol hdp hm hbd ⊢
  cases n with
  | zero =>
   have h' : ¬ (0 : Int) ≤ ((0 : Nat) : Int) - 1 := by omega
   simp only [depGo] at hdp
   rw [List.drop_zero, hdp] at hm
   have e : maxL (deps up) = most := by rw [hm]; exact maxL_mx (deps_pos up) (by rw [← hdp, hol]; exact h1)
   rw [e]
   refine run ⟨?_⟩
   exact rfl
  | succ i =>
   have e0 : ((((i + 1 : Nat) : Int)) - 1) = (i : Int) := by omega
   rw [e0]
   have h' : (0 : Int) ≤ (i : Int) := by omega
   simp only [depGo] at hdp
   obtain ⟨u0, u1⟩ := hin i (by omega)
   rw [getD_of (show i < up.length by omega) (-1) 0, if_pos u0] at hdp
   have hk : (up.getD i 0).toNat < out.length := by omega
   have hbv := hbd _ _ (get_getD hk 0)
   have pu : 0 ≤ (i : Int) ∧ (up.map (D.int .i64))[(i : Int).toNat]? = some (.int .i64 (up.getD i 0)) := ⟨h', gK (by omega)⟩
   have pk1 : 0 ≤ up.getD i 0 ∧ (up.getD i 0).toNat < up.length := by omega
   have pi : 0 ≤ (i : Int) ∧ (i : Int).toNat < up.length := by omega
   obtain ⟨d, hd⟩ : ∃ d, d = out.getD (up.getD i 0).toNat 0 + 1 := ⟨_, rfl⟩
   rw [← hd] at hdp
   have hio : i < out.length := by omega
   have wd : IntKind.i64.wrap (out.getD (up.getD i 0).toNat 0 + 1) = d := by rw [i64w (by omega), hd]
   have hput : putAt (arrI out) (0 + i * 1) [i64 (IntKind.i64.wrap (out.getD (up.getD i 0).toNat 0 + 1))] = arrI (out.set i d) := by rw [wd, Nat.zero_add, Nat.mul_one, arrI_put hio]
   have hst : ∀ {k : List V → Prop}, k (arrI (out.set i d)) → forceL (putAt (arrI out) (0 + i * 1) [i64 (IntKind.i64.wrap (out.getD (up.getD i 0).toNat 0 + 1))]) k := fun hk => by rw [forceL_eq, hput]; exact hk
   have hgd : (arrI (out.set i d))[0 + i * 1]? = some (i64 d) := by rw [arrI_at (by simpa using hio)]; simp [hio]
   have hdr : (out.set i d).drop i = d :: out.drop (i + 1) := by
    rw [List.drop_eq_getElem_cons (by simpa using hio)]
    simp [List.drop_set_of_lt]
   have hnx : ∀ (j : Nat) (v : Int), (out.set i d)[j]? = some v → 0 ≤ v ∧ v ≤ 1048576 - (i : Int) := fun j v hv => by
     rw [List.getElem?_set] at hv
     split at hv
     ·cases hv; omega
     ·have := hbd _ _ hv; omega
   repeat' (first | refine run ⟨?_⟩ | refine pickD pu ?_ | refine And.intro pk1 ?_ | refine nthK_of (arrI_at hk) ?_ | refine And.intro pi ?_ | fail)
   refine chk_of (by simp; omega) (hst ?_)
   by_cases hc : most < d
   ·repeat' (first | refine run ⟨?_⟩ | refine And.intro pi ?_ | refine nthK_of hgd ?_ | fail)
    exact ⟨(i, out.set i d, d), ⟨by show i + 1 ≤ _; omega, by simp [hol], hdp, by show d = mx _; rw [hdr]; simp only [mx]; rw [if_pos (by omega)], hnx⟩, by show i < i + 1; omega, by rw [i64w (n := (i : Int) - 1) (by omega)], rfl⟩
   ·repeat' (first | refine run ⟨?_⟩ | refine And.intro pi ?_ | refine nthK_of hgd ?_ | fail)
    exact ⟨(i, out.set i d, most), ⟨by show i + 1 ≤ _; omega, by simp [hol], hdp, by show most = mx _; rw [hdr]; simp only [mx]; rw [if_neg (by omega)]; exact hm, hnx⟩, by show i < i + 1; omega, by rw [i64w (n := (i : Int) - 1) (by omega)], rfl⟩
 ·show depGo up (up.length - 1) _ = deps up
  unfold deps
  conv => rhs; rw [show depGo up up.length = depGo up (up.length - 1 + 1) from by rw [show up.length - 1 + 1 = up.length by omega]]
  simp only [depGo]
  rw [hlast, if_neg (by omega)]
 ·show (0 : Int) = mx _
  rw [List.drop_replicate, show up.length - (up.length - 1) = 1 by omega]; rfl
 ·rw [List.getElem?_replicate] at hv
  split at hv
  ·cases hv; show (0 : Int) ≤ 0 ∧ (0 : Int) ≤ 1048576 - ((up.length - 1 : Nat) : Int); omega
  ·cases hv
 ·have e : IntKind.i64.wrap (((up.map (D.int .i64)).length : Int) - 2) = ((up.length - 1 : Nat) : Int) - 1 := by rw [hnl, i64w (by omega)]; omega
  show [_, _, (6, .arr 1 0 ((up.map (D.int .i64)).length : Int).toNat), (7, i64 (IntKind.i64.wrap (((up.map (D.int .i64)).length : Int) - 2)))] = _
  rw [e, hnl]; rfl
 ·show [_, Ob.box (List.replicate ((up.map (D.int .i64)).length : Int).toNat _)] = _
  simp [hnl]
set_option maxHeartbeats 2000000 in
theorem rright_ev (t : List Nd) (hf : Fine t) : evF (pgL fx F) n_ref13_Right [.d (treeD t)] H = some (boo (checkB t), H) := by
 refine evF_wq (t_ref13_Right (F := F)) rfl rfl ?_ H
 have htl := hf.len
 have hnl : (t.map Nd.D).length = t.length := List.length_map ..
 by_cases c1 : t.length < 1
 ·have d1 : ((t.map Nd.D).length : Int) < 1 := by omega
  refine run ⟨?_⟩
  rw [show checkB t = false from by unfold checkB; rw [decide_eq_false (by omega : ¬ 1 ≤ t.length)]; rfl]; exact rfl
 have d1 : ¬ ((t.map Nd.D).length : Int) < 1 := by omega
 by_cases c2 : 20000 < t.length
 ·have d2 : 20000 < ((t.map Nd.D).length : Int) := by omega
  refine run ⟨?_⟩
  rw [show checkB t = false from by unfold checkB; rw [decide_eq_false (by omega : ¬ t.length ≤ 20000), Bool.and_false]; rfl]; exact rfl
 have d2 : ¬ 20000 < ((t.map Nd.D).length : Int) := by omega
 have hw : IntKind.i64.wrap (((t.map Nd.D).length : Int) - 1) = ((t.length - 1 : Nat) : Int) := by rw [hnl, i64w (by omega)]; omega
 have pl : 0 ≤ IntKind.i64.wrap (((t.map Nd.D).length : Int) - 1) ∧ (t.map Nd.D)[(IntKind.i64.wrap (((t.map Nd.D).length : Int) - 1)).toNat]? = some (nd t (t.length - 1)).D := by rw [hw]; exact ndD_at (k := ((t.length - 1 : Nat) : Int)) (by omega) (by omega)
 have hcb : checkB t = (decide ((nd t (t.length - 1)).k = 1) && (List.range t.length).all (nodeB t) && upOk t) := by
  unfold checkB
  rw [decide_eq_true (by omega : 1 ≤ t.length), decide_eq_true (by omega : t.length ≤ 20000)]; rfl
 rw [hcb]
 by_cases c3 : (nd t (t.length - 1)).k = 1
 rotate_left
 ·have d3 : (!decide ((nd t (t.length - 1)).k = 1)) = true := by rw [decide_eq_false c3]; rfl
  repeat' (first | refine run ⟨?_⟩ | refine pickD pl ?_ | fail)
  rw [decide_eq_false c3]; exact rfl
 have d3 : (!decide ((nd t (t.length - 1)).k = 1)) = false := by rw [decide_eq_true c3]; rfl
 rw [decide_eq_true c3, Bool.true_and]
 repeat' (first | refine run ⟨?_⟩ | refine pickD pl ?_ | fail)
 refine wq_loop (α := Nat) (fun i => t.length - i) (fun i => [(1, .ptr 0 0), (28, i64 t.length), (29, i64 i)]) (fun _ => [TB t]) (fun i => i ≤ t.length ∧ ∀ j, j < i → nodeB t j = true) ?_ 0 ⟨by omega, by omega⟩ ?_ rfl
 ·rintro i ⟨hi, hall⟩
  by_cases h : i < t.length
  ·have h' : (i : Int) < (t.length : Int) := by omega
   have hn := fun H => rnode_ev (fx := fx) (F := F) H t hf i h
   rw [node_eq t i (hf.iv _ (nd_mem h))] at hn
   cases hb : nodeB t i with
   | false =>
    rw [hb] at hn
    repeat' (first | refine run ⟨?_⟩ | refine ca (hn _) ?_ | fail)
    rw [not_all (p := nodeB t) (l := List.range t.length) (fun e => by have := List.all_eq_true.1 e i (List.mem_range.2 h); rw [hb] at this; cases this)]; exact rfl
   | true =>
    rw [hb] at hn
    repeat' (first | refine run ⟨?_⟩ | refine ca (hn _) ?_ | fail)
    refine ⟨i + 1, ⟨by omega, fun j hj => ?_⟩, by omega, by rw [i64w (by omega)]; rfl, rfl⟩
    by_cases hji : j = i
    ·rw [hji]; exact hb
    ·exact hall j (by omega)
  ·have h' : ¬ (i : Int) < (t.length : Int) := by omega
   have hnodes : (List.range t.length).all (nodeB t) = true := List.all_eq_true.2 fun j hj => hall j (by have := List.mem_range.1 hj; omega)
   rw [hnodes, Bool.true_and]
   have hko := kidsOk_of hnodes
   have hp := fun H => rparents_ev (fx := fx) (F := F) H t hf hko
   cases hu : ups t with
   | none =>
    rw [hu] at hp
    repeat' (first | refine run ⟨?_⟩ | refine ca (hp _) ?_ | fail)
    rw [show upOk t = false from by unfold upOk; rw [hu]]; exact rfl
   | some up =>
    rw [hu] at hp
    simp only at hp
    have hupo : upOk t = ((decide (up = []) || !up.dropLast.contains (-1)) && decide (maxL (deps up) ≤ 400)) := by unfold upOk; rw [hu]
    obtain ⟨u1, u2⟩ := ups_facts hu
    have hne : decide (up = []) = false := decide_eq_false fun e => by rw [e] at u1; simp at u1; omega
    rw [hupo, hne, Bool.false_or]
    cases hc : up.dropLast.contains (-1) with
    | true =>
     rw [hc, if_pos rfl] at hp
     repeat' (first | refine run ⟨?_⟩ | refine ca (hp _) ?_ | fail)
     exact rfl
    | false =>
     rw [hc, if_neg Bool.false_ne_true] at hp
     have hno := (no_neg hu).1 hc
     have hd := fun H => rdeep_ev (fx := fx) (F := F) H t up (by omega) (by omega) (by rw [u1]; exact ups_last hu hko (by omega)) (fun j hj => ⟨hno j hj, by have := u2 j (up.getD j 0) (get_getD (by omega) 0); omega⟩)
     repeat' (first | refine run ⟨?_⟩ | refine ca (hp _) ?_ | refine ca (hd _) ?_ | fail)
     exact rfl
 ·show [_, (28, i64 ((t.map Nd.D).length : Int)), _] = _
  rw [hnl]; rfl
end
end Go.Vm.Itr
namespace Go.Vm.Ite
open Go.Vm.Tp (Nd treeD checkB)
open Go.Vm.Ip
set_option maxRecDepth 10000
set_option linter.unusedVariables false
set_option linter.unusedSimpArgs false
theorem fine_bod {t : List Nd} (hf : Tp.Fine t) : Tp.Fine (t.map bod) := by
 refine ⟨by rw [List.length_map]; exact hf.len, fun y hy => ?_, fun y hy => ?_, fun y hy => ?_, fun y hy => ?_, fun y hy => ?_⟩ <;> obtain ⟨x, hx, rfl⟩ := List.mem_map.1 hy
 ·unfold bod
  (repeat' split)
  ·exact hf.txt x hx
  ·exact (by decide : ([113] : S).length ≤ 1048576)
  ·exact hf.txt x hx
 ·rw [bod_kids]; exact hf.kid x hx
 ·rw [bod_kids]; exact hf.ik x hx
 ·have hv := hf.iv x hx
  unfold bod
  (repeat' split)
  ·have hb : -9223372036854775808 ≤ x.v.tdiv 2 ∧ x.v.tdiv 2 ≤ 9223372036854775807 := by
    have h1 := hv.1
    have h2 := hv.2
    rcases Int.le_total 0 x.v with c | c
    ·rw [Int.tdiv_eq_ediv_of_nonneg c]; omega
    ·have : x.v.tdiv 2 = -((-x.v) / 2) := by rw [← Int.tdiv_eq_ediv_of_nonneg (show 0 ≤ -x.v by omega), Int.neg_tdiv, Int.neg_neg]
     rw [this]; omega
   show Tp.I64 (IntKind.i64.wrap (x.v.tdiv 2))
   rw [i64w hb]; exact hb
  ·exact hv
  ·exact hv
 ·rw [bod_f, bod_e]; exact hf.ie x hx
section
variable {fx : Nat → Option Obj}
set_option maxHeartbeats 8000000 in
theorem bodies_ev (t : List Nd) (hf : Tp.Fine t) (H : Hp) : evF (pgL fx FT) n_law14_ItemsBodies [.d (treeD t)] H = some (boo true, H) := by
 refine evF_wq (t_law14_ItemsBodies (F := FT)) rfl rfl ?_ H
 have e1 := fun H => of_ev (fx := fx) hf H
 have e6 := fun H => speaksC_ev (fx := fx) H
 have hnl : (t.map Nd.D).length = t.length := List.length_map ..
 have htl := hf.len
 rcases ofP_dg t with ⟨ed, hc⟩ | ⟨c, x, y, hc, ed⟩
 rotate_left
 ·rw [ed] at e1
  have nc : (!decide (c = 0)) = true := by rw [decide_eq_false hc]; rfl
  repeat' (first | refine run ⟨?_⟩ | refine ca (e1 _) ?_ | refine ca (e6 _) ?_ | fail)
  exact rfl
 ·have e2 := fun H => of_ev (fx := fx) (fine_bod hf) H
  have e3 := fun H => Itr.rright_ev (fx := fx) (F := FT) (H := H) (t.map bod) (fine_bod hf)
  rw [check_bod hf.iv hc] at e3
  rw [of_bod hf hc, ed] at e2
  rw [ed] at e1
  have hfi : Fine (ofP t).1 := by
   have hr := rf_of hf hc
   unfold ofP
   rw [if_pos hc]
   (repeat' split)
   all_goals first | exact fine_its hr (roots_len hr) (fun n hn => (roots_in hr n hn).1) | exact ⟨Nat.zero_le _, Nat.zero_le _, Nat.zero_le _, by simp, by simp, by simp⟩
  generalize (ofP t).1 = its at e1 e2 hfi
  have e4 := fun H => same_ev (fx := fx) (F := FT) H its its hfi
  rw [sameB_refl] at e4
  repeat' (first | refine run ⟨?_⟩ | refine ca (e1 _) ?_ | fail)
  refine wq_loop (α := Nat) (fun j => t.length - j) (fun j => [(1, .ptr 0 0), (3, .ptr 1 0), (5, .ptr 3 0), (6, i64 j)]) (fun j => [.box [.d (.sl (t.map Nd.D))], .box [.d (.sl (its.ss.map Nam.D)), .d (.sl (its.es.map Nam.D)), .d (.sl (its.fs.map Fnc.D))], .box [i64 0, i64 0, i64 0], .box [.row 4 j], .row 6 ((t.take j).map fun x => (bod x).D)]) (fun j => j ≤ t.length) ?_ 0 (Nat.zero_le _) rfl rfl
  intro j hj
  by_cases c : j < t.length
  ·have c2 : (j : Int) < ((t.map Nd.D).length : Int) := by omega
   have pj : 0 ≤ (j : Int) ∧ (t.map Nd.D)[(j : Int).toNat]? = some (t[j]).D := ⟨by omega, by rw [Int.toNat_natCast, List.getElem?_map, List.getElem?_eq_getElem c]; rfl⟩
   have ts := take_map_succ (fun x => (bod x).D) c
   have wj : IntKind.i64.wrap ((j : Int) + 1) = ((j + 1 : Nat) : Int) := by rw [i64w (by omega)]; omega
   have hrl : ((t.take j).map fun x => (bod x).D).length = j := by rw [List.length_map, List.length_take]; omega
   have hroom : ((t.take j).map fun x => (bod x).D).length = j ∧ roomy (j + 1) 72 := ⟨hrl, by unfold roomy; omega⟩
   generalize t[j] = x at pj ts
   obtain ⟨k, s, v, ks, f, e⟩ := x
   have pj : 0 ≤ (j : Int) ∧ (t.map Nd.D)[(j : Int).toNat]? = some (.agg [.int .i64 k, .str s, .int .i64 v, .sl (ks.map (D.int .i64)), .int .i64 f, .int .i64 e]) := pj
   by_cases c30 : k = 30
   ·have hb : bod ⟨k, s, v, ks, f, e⟩ = ⟨k, s, IntKind.i64.wrap (v.tdiv 2), ks, f, e⟩ := by unfold bod; rw [if_pos c30]
    have c33 : ¬ k = 33 := by omega
    rw [hb] at ts
    repeat' (first | refine run ⟨?_⟩ | refine pickD pj ?_ | refine And.intro ⟨rfl, hroom⟩ ?_ | refine And.intro ⟨rfl, by decide⟩ ?_ | fail)
    exact ⟨j + 1, by show j + 1 ≤ _; omega, by show _ - (j + 1) < _ - j; omega, by rw [wj], by rw [← ts]; rfl⟩
   ·by_cases c33 : k = 33
    ·have hb : bod ⟨k, s, v, ks, f, e⟩ = ⟨k, [113], v, ks, f, e⟩ := by unfold bod; rw [if_neg c30, if_pos c33]
     rw [hb] at ts
     repeat' (first | refine run ⟨?_⟩ | refine pickD pj ?_ | refine And.intro ⟨rfl, hroom⟩ ?_ | refine And.intro ⟨rfl, by decide⟩ ?_ | fail)
     exact ⟨j + 1, by show j + 1 ≤ _; omega, by show _ - (j + 1) < _ - j; omega, by rw [wj], by rw [← ts]; rfl⟩
    ·have hb : bod ⟨k, s, v, ks, f, e⟩ = ⟨k, s, v, ks, f, e⟩ := by unfold bod; rw [if_neg c30, if_neg c33]
     rw [hb] at ts
     repeat' (first | refine run ⟨?_⟩ | refine pickD pj ?_ | refine And.intro ⟨rfl, hroom⟩ ?_ | refine And.intro ⟨rfl, by decide⟩ ?_ | fail)
     exact ⟨j + 1, by show j + 1 ≤ _; omega, by show _ - (j + 1) < _ - j; omega, by rw [wj], by rw [← ts]; rfl⟩
  ·have c2 : ¬ (j : Int) < ((t.map Nd.D).length : Int) := by omega
   have hje : j = t.length := by omega
   have hrl : ((t.take j).map fun x => (bod x).D).length = j := by rw [List.length_map, List.length_take]; omega
   have hmm : ((t.take j).map fun x => (bod x).D) = (t.map bod).map Nd.D := by rw [hje, List.take_length, List.map_map]; rfl
   rw [hmm] at hrl ⊢
   repeat' (first | refine run ⟨?_⟩ | refine ca (e2 _) ?_ | refine ca (e3 _) ?_ | refine ca (e4 _) ?_ | refine ca (e6 _) ?_ | refine And.intro hrl ?_ | fail)
   exact rfl
end
end Go.Vm.Ite
namespace Go.Proofs.YtocpgkeiakjicaaGreat
open Go Go.Vm Go.ChangeShapes Go.WideShapes Go.ChangeAt Go.RowKit Go.Vm.Tp
set_option maxRecDepth 100000
theorem itemsBodiesUpto_key {H : Type} (W : World) (ds : List (DataW H)) (h1 : ds.length = Tryz.f4.params.size) (h2 : ∀ (i : Nat) t x, Tryz.f4.params[i]? = some t → ds[i]? = some x → HasT Tryz.prog 8 t (dwD x)) (hk : Rows.uptoSmall H ds = true) : ∃ H', evF (pgW W) 4 ((ds.map dwD).map V.d) [] = some (.d (.bool true), H') := by
 have hp : Tryz.f4.params = #[24] := Tryz.params4
 match ds, h1 with
 | [d0], _ =>
  have hd0 := h2 0 24 d0 (by rw [hp]; rfl) rfl
  have hk0 := bulk_at (d := d0) hk (by simp)
  obtain ⟨t, e1, _, w1⟩ := tree_arg hd0
  rw [e1] at hk0
  exact ⟨[], by rw [pg_eq]; show evF _ 4 [.d (dwD d0)] [] = _; rw [e1]; exact Go.Vm.Ite.bodies_ev t (fine_of hk0 w1) []⟩
theorem itemsBodiesUpto_lifted (os : Os) (started : os.Started) (H : Type) (enc : TypeId × Value → H) (F : Stop.Interp) :
 ReturnsInHanded {} Tryz.checked os 4 .any ((Rows.OpenSpec.upto Rows.itemsBodiesSpec).preRow enc Tryz.prog Tryz.f4 Rows.itemsBodiesUptoRow.domain false Rows.itemsBodiesUptoRow.laid) (((Rows.OpenSpec.upto Rows.itemsBodiesSpec).at F).post enc Tryz.prog Tryz.f4 false true false false) := by
 refine returnsInHanded_of_row (C := Tryz.checked) (s := Rows.OpenSpec.upto Rows.itemsBodiesSpec) own started (by kernel_rfl) Tryz.func4
   (witness_row_at (enc := enc) (C := Tryz.checked) false (World.laidAll Tryz.prog os []) #[.agg #[.slice none 0 0]] (World.laidAll_os _ _ _) (by kernel_rfl) (by kernel_rfl) (by kernel_rfl)
     (OpenSpec.preRow_of_cond 8 (x := ([.agg [.nil]], [], [])) (by kernel_rfl) (by kernel_rfl) (fun k hk => by cases hk; kernel_rfl) (by kernel_rfl) (door_met os _))) ?_
 intro W base args ds gs before hval hW _ hcond _ hL hsh _
 have hgs : gs = [] := (trodVars_none hW.choose_spec.choose_spec.2.1).1
 refine row_contract (s := Rows.itemsBodiesSpec) (m := 8) (tb := 4) (pg := pgW W) (tOk hsh) mixed laidOut rfl (fun ds h => ?_) (fun t ht => ?_) (by kernel_rfl) Tryz.underlying4 hval hW globOk (fun h1 h2 => itemsBodiesUpto_key W ds h1 h2 (by have := hcond _ rfl; rw [hgs, List.append_nil] at this; exact this))
 ·match ds, h with
  | [d0], _ => rfl
 ·rw [Tryz.params4] at ht
  simp only [List.mem_cons, List.not_mem_nil, or_false] at ht
  subst ht
  ·exact ⟨⟨by kernel_rfl, of_decide_eq_true (by kernel_rfl)⟩, by kernel_rfl⟩
theorem itemsBodiesUpto_holds : Rows.ItemsBodiesUptoSaid :=
 OpenClaim.holds_of_cond 4 Tryz.f4 rfl rfl rfl rfl rfl rfl rfl ⟨rfl, rfl, rfl, rfl, rfl⟩ rfl rfl rfl rfl rfl (by kernel_rfl) Tryz.func4 (by kernel_rfl)
   (of_decide_eq_true (by kernel_rfl)) (by unfold Func.isWrapper; first | (rw [if_pos (by decide +kernel)]; kernel_rfl) | (rw [if_neg (by decide +kernel)]; exact ⟨rfl, rfl⟩))
   (fun os started H enc _ F => by rw [OpenClaim.pre_eq_preRow]; exact itemsBodiesUpto_lifted os started H enc F)
end Go.Proofs.YtocpgkeiakjicaaGreat
