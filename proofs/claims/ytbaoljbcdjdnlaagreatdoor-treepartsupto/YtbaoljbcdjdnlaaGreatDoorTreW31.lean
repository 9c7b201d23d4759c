import Derived.Test.YtbaoljbcdjdnlaaGreatDoorTreW26
import Derived.Test.YtbaoljbcdjdnlaaGreatDoorTreP14
set_option linter.unusedSimpArgs false
set_option linter.unusedVariables false
namespace Go.Vm.Tre
open Go.Vm.Tp
set_option maxRecDepth 10000
theorem ty_kid {t : List Nd} {n : Nat} (h : NodOf t n (nd t n)) (hq : (nd t n).k = 14 ∨ (nd t n).k = 15 ∨ (nd t n).k = 16) : ∃ a : Nat, (nd t n).kids = [(a : Int)] ∧ a < n := by
  have h1 : (nd t n).kids.length = 1 := h.len.2.1 (by omega)
  match hk : (nd t n).kids, h1 with
  | [a], _ =>
    have := h.kid a (by rw [hk]; simp)
    exact ⟨a.toNat, by rw [Int.toNat_of_nonneg this.1], by omega⟩
theorem tyT_eq (t : List Nd) (f n : Nat) : tyT t (f + 1) n = if (nd t n).k = 10 then [105, 54, 52]
    else if (nd t n).k = 11 then [98, 111, 111, 108]
    else if (nd t n).k = 12 then [40, 41]
    else if (nd t n).k = 14 then [38] ++ tyT t f (kid (nd t n) 0).toNat
    else if (nd t n).k = 15 then [38, 109, 117, 116, 32] ++ tyT t f (kid (nd t n) 0).toNat
    else if (nd t n).k = 16 then [66, 111, 120, 60] ++ tyT t f (kid (nd t n) 0).toNat ++ [62]
    else (nd t n).t := rfl
theorem tyT_len {t : List Nd} (hf : Fine t) (hnod : ∀ i, i < t.length → NodOf t i (nd t i)) : ∀ f n, n < f → n < t.length → (tyT t f n).length ≤ 1048576 + 5 * n
  | 0, n, h, _ => by omega
  | f + 1, n, h, hn => by
    have htx := hf.txt _ (nd_mem hn)
    rw [tyT_eq]
    have key : (nd t n).k = 14 ∨ (nd t n).k = 15 ∨ (nd t n).k = 16 → (tyT t f (kid (nd t n) 0).toNat).length + 5 ≤ 1048576 + 5 * n := fun hq => by
      obtain ⟨a, ha, hlt⟩ := ty_kid (hnod n hn) hq
      have := tyT_len hf hnod f a (by omega) (by omega)
      have e : (kid (nd t n) 0).toNat = a := by unfold kid; rw [ha]; rfl
      rw [e]; omega
    split
    · simp; omega
    split
    · simp; omega
    split
    · simp; omega
    split
    · have := key (by omega); simp only [List.length_append, List.length_cons, List.length_nil]; omega
    split
    · have := key (by omega); simp only [List.length_append, List.length_cons, List.length_nil]; omega
    split
    · have := key (by omega); simp only [List.length_append, List.length_cons, List.length_nil]; omega
    · omega
section
variable {fx : Nat → Option Obj}
set_option maxHeartbeats 1000000 in
theorem text_ev (t : List Nd) (hf : Fine t) (hnod : ∀ i, i < t.length → NodOf t i (nd t i)) : ∀ (f n : Nat), n < f → n < t.length → ∀ H, evF (pgL fx) n_tree_text [.d (treeD t), i64 n] H = some (str (tyT t f n), H)
  | 0, n, h, _ => by omega
  | f + 1, n, h, hn => fun H => by
    have ih := fun (a : Nat) (ha : a < n) => text_ev t hf hnod f a (by omega) (by omega)
    have hll := fun (a : Nat) (ha : a < n) => tyT_len hf hnod f a (by omega) (by omega)
    have htl := hf.len
    have htx := hf.txt _ (nd_mem hn)
    rw [tyT_eq]
    have hkid := ty_kid (hnod n hn)
    have hg := ndD_at (t := t) (k := (n : Int)) (by omega) (by omega)
    change 0 ≤ (n : Int) ∧ (t.map Nd.D)[(n : Int).toNat]? = some (nd t n).D at hg
    refine evF_wq t_tree_text rfl rfl ?_ H
    revert hkid hg htx
    generalize nd t n = x
    obtain ⟨q, tx, v, kids, fr, e⟩ := x
    intro htx hkid hg
    simp only at hkid htx ⊢
    by_cases c10 : q = 10
    · subst c10
      repeat' (first | refine run ⟨?_⟩ | refine pickD hg ?_ | fail)
      exact rfl
    by_cases c11 : q = 11
    · subst c11
      repeat' (first | refine run ⟨?_⟩ | refine pickD hg ?_ | fail)
      exact rfl
    by_cases c12 : q = 12
    · subst c12
      repeat' (first | refine run ⟨?_⟩ | refine pickD hg ?_ | fail)
      exact rfl
    by_cases c14 : q = 14
    · subst c14
      obtain ⟨a, ha, hlt⟩ := hkid (by simp)
      subst ha
      have hia := ih a hlt
      have hla := hll a hlt
      have e0 : (kid ⟨14, tx, v, [(a : Int)], fr, e⟩ 0).toNat = a := rfl
      rw [e0]
      have l1 : ∀ l : List UInt8, l.length ≤ 6 → l.length + (tyT t f a).length ≤ 9223372036854775807 := fun l hl => by omega
      have l2 : ∀ l r : List UInt8, l.length ≤ 6 → r.length ≤ 6 → (l ++ tyT t f a).length + r.length ≤ 9223372036854775807 := fun l r hl hr => by rw [List.length_append]; omega
      repeat' (first | refine run ⟨?_⟩ | refine pickD hg ?_ | refine ca (hia _) ?_ | refine And.intro (l1 _ (by simp)) ?_ | refine And.intro (l2 _ _ (by simp) (by simp)) ?_ | fail)
      exact rfl
    by_cases c15 : q = 15
    · subst c15
      obtain ⟨a, ha, hlt⟩ := hkid (by simp)
      subst ha
      have hia := ih a hlt
      have hla := hll a hlt
      have e0 : (kid ⟨15, tx, v, [(a : Int)], fr, e⟩ 0).toNat = a := rfl
      rw [e0]
      have l1 : ∀ l : List UInt8, l.length ≤ 6 → l.length + (tyT t f a).length ≤ 9223372036854775807 := fun l hl => by omega
      have l2 : ∀ l r : List UInt8, l.length ≤ 6 → r.length ≤ 6 → (l ++ tyT t f a).length + r.length ≤ 9223372036854775807 := fun l r hl hr => by rw [List.length_append]; omega
      repeat' (first | refine run ⟨?_⟩ | refine pickD hg ?_ | refine ca (hia _) ?_ | refine And.intro (l1 _ (by simp)) ?_ | refine And.intro (l2 _ _ (by simp) (by simp)) ?_ | fail)
      exact rfl
    by_cases c16 : q = 16
    · subst c16
      obtain ⟨a, ha, hlt⟩ := hkid (by simp)
      subst ha
      have hia := ih a hlt
      have hla := hll a hlt
      have e0 : (kid ⟨16, tx, v, [(a : Int)], fr, e⟩ 0).toNat = a := rfl
      rw [e0]
      have l1 : ∀ l : List UInt8, l.length ≤ 6 → l.length + (tyT t f a).length ≤ 9223372036854775807 := fun l hl => by omega
      have l2 : ∀ l r : List UInt8, l.length ≤ 6 → r.length ≤ 6 → (l ++ tyT t f a).length + r.length ≤ 9223372036854775807 := fun l r hl hr => by rw [List.length_append]; omega
      repeat' (first | refine run ⟨?_⟩ | refine pickD hg ?_ | refine ca (hia _) ?_ | refine And.intro (l1 _ (by simp)) ?_ | refine And.intro (l2 _ _ (by simp) (by simp)) ?_ | fail)
      exact rfl
    have e0 : (if q = 10 then ([105, 54, 52] : List UInt8) else if q = 11 then [98, 111, 111, 108] else if q = 12 then [40, 41] else if q = 14 then [38] ++ tyT t f (kid ⟨q, tx, v, kids, fr, e⟩ 0).toNat else if q = 15 then [38, 109, 117, 116, 32] ++ tyT t f (kid ⟨q, tx, v, kids, fr, e⟩ 0).toNat else if q = 16 then [66, 111, 120, 60] ++ tyT t f (kid ⟨q, tx, v, kids, fr, e⟩ 0).toNat ++ [62] else tx) = tx := by simp only [c10, c11, c12, c14, c15, c16, if_false]
    rw [e0]
    repeat' (first | refine run ⟨?_⟩ | refine pickD hg ?_ | fail)
    exact rfl
set_option maxHeartbeats 1000000 in
theorem rtext_ev (t : List Nd) (hf : Fine t) (hnod : ∀ i, i < t.length → NodOf t i (nd t i)) : ∀ (f n : Nat), n < f → n < t.length → ∀ H, evF (pgL fx) n_ref13_TypeText [.d (treeD t), i64 n] H = some (str (tyT t f n), H)
  | 0, n, h, _ => by omega
  | f + 1, n, h, hn => fun H => by
    have ih := fun (a : Nat) (ha : a < n) => rtext_ev t hf hnod f a (by omega) (by omega)
    have hll := fun (a : Nat) (ha : a < n) => tyT_len hf hnod f a (by omega) (by omega)
    have htl := hf.len
    have htx := hf.txt _ (nd_mem hn)
    rw [tyT_eq]
    have hkid := ty_kid (hnod n hn)
    have hg := ndD_at (t := t) (k := (n : Int)) (by omega) (by omega)
    change 0 ≤ (n : Int) ∧ (t.map Nd.D)[(n : Int).toNat]? = some (nd t n).D at hg
    refine evF_wq t_ref13_TypeText rfl rfl ?_ H
    revert hkid hg htx
    generalize nd t n = x
    obtain ⟨q, tx, v, kids, fr, e⟩ := x
    intro htx hkid hg
    simp only at hkid htx ⊢
    by_cases c10 : q = 10
    · subst c10
      repeat' (first | refine run ⟨?_⟩ | refine pickD hg ?_ | fail)
      exact rfl
    by_cases c11 : q = 11
    · subst c11
      repeat' (first | refine run ⟨?_⟩ | refine pickD hg ?_ | fail)
      exact rfl
    by_cases c12 : q = 12
    · subst c12
      repeat' (first | refine run ⟨?_⟩ | refine pickD hg ?_ | fail)
      exact rfl
    by_cases c14 : q = 14
    · subst c14
      obtain ⟨a, ha, hlt⟩ := hkid (by simp)
      subst ha
      have hia := ih a hlt
      have hla := hll a hlt
      have e0 : (kid ⟨14, tx, v, [(a : Int)], fr, e⟩ 0).toNat = a := rfl
      rw [e0]
      have l1 : ∀ l : List UInt8, l.length ≤ 6 → l.length + (tyT t f a).length ≤ 9223372036854775807 := fun l hl => by omega
      have l2 : ∀ l r : List UInt8, l.length ≤ 6 → r.length ≤ 6 → (l ++ tyT t f a).length + r.length ≤ 9223372036854775807 := fun l r hl hr => by rw [List.length_append]; omega
      repeat' (first | refine run ⟨?_⟩ | refine pickD hg ?_ | refine ca (hia _) ?_ | refine And.intro (l1 _ (by simp)) ?_ | refine And.intro (l2 _ _ (by simp) (by simp)) ?_ | fail)
      exact rfl
    by_cases c15 : q = 15
    · subst c15
      obtain ⟨a, ha, hlt⟩ := hkid (by simp)
      subst ha
      have hia := ih a hlt
      have hla := hll a hlt
      have e0 : (kid ⟨15, tx, v, [(a : Int)], fr, e⟩ 0).toNat = a := rfl
      rw [e0]
      have l1 : ∀ l : List UInt8, l.length ≤ 6 → l.length + (tyT t f a).length ≤ 9223372036854775807 := fun l hl => by omega
      have l2 : ∀ l r : List UInt8, l.length ≤ 6 → r.length ≤ 6 → (l ++ tyT t f a).length + r.length ≤ 9223372036854775807 := fun l r hl hr => by rw [List.length_append]; omega
      repeat' (first | refine run ⟨?_⟩ | refine pickD hg ?_ | refine ca (hia _) ?_ | refine And.intro (l1 _ (by simp)) ?_ | refine And.intro (l2 _ _ (by simp) (by simp)) ?_ | fail)
      exact rfl
    by_cases c16 : q = 16
    · subst c16
      obtain ⟨a, ha, hlt⟩ := hkid (by simp)
      subst ha
      have hia := ih a hlt
      have hla := hll a hlt
      have e0 : (kid ⟨16, tx, v, [(a : Int)], fr, e⟩ 0).toNat = a := rfl
      rw [e0]
      have l1 : ∀ l : List UInt8, l.length ≤ 6 → l.length + (tyT t f a).length ≤ 9223372036854775807 := fun l hl => by omega
      have l2 : ∀ l r : List UInt8, l.length ≤ 6 → r.length ≤ 6 → (l ++ tyT t f a).length + r.length ≤ 9223372036854775807 := fun l r hl hr => by rw [List.length_append]; omega
      repeat' (first | refine run ⟨?_⟩ | refine pickD hg ?_ | refine ca (hia _) ?_ | refine And.intro (l1 _ (by simp)) ?_ | refine And.intro (l2 _ _ (by simp) (by simp)) ?_ | fail)
      exact rfl
    have e0 : (if q = 10 then ([105, 54, 52] : List UInt8) else if q = 11 then [98, 111, 111, 108] else if q = 12 then [40, 41] else if q = 14 then [38] ++ tyT t f (kid ⟨q, tx, v, kids, fr, e⟩ 0).toNat else if q = 15 then [38, 109, 117, 116, 32] ++ tyT t f (kid ⟨q, tx, v, kids, fr, e⟩ 0).toNat else if q = 16 then [66, 111, 120, 60] ++ tyT t f (kid ⟨q, tx, v, kids, fr, e⟩ 0).toNat ++ [62] else tx) = tx := by simp only [c10, c11, c12, c14, c15, c16, if_false]
    rw [e0]
    repeat' (first | refine run ⟨?_⟩ | refine pickD hg ?_ | fail)
    exact rfl
set_option maxHeartbeats 1000000 in
theorem type_ev (t : List Nd) (hf : Fine t) (n : Int) (H : Hp) : evF (pgL fx) n_tree_Type [.d (treeD t), i64 n] H = some (.tup [str (tyA t n).1, i64 (tyA t n).2], H) := by
  refine evF_wq t_tree_Type rfl rfl ?_ H
  have htl := hf.len
  have hnl : (t.map Nd.D).length = t.length := List.length_map ..
  have hr := fun H => check_ev (fx := fx) H t hf
  unfold tyA
  cases hc : checkB t with
  | false =>
    rw [hc] at hr
    repeat' (first | refine run ⟨?_⟩ | refine ca (hr _) ?_ | fail)
    exact rfl
  | true =>
    rw [hc] at hr
    rw [if_pos rfl]
    obtain ⟨up, hT⟩ := treeOk hc
    by_cases c1 : n < 0
    · rw [if_pos (.inl c1)]
      repeat' (first | refine run ⟨?_⟩ | refine ca (hr _) ?_ | fail)
      exact rfl
    by_cases c2 : (t.length : Int) ≤ n
    · have d2 : ((t.map Nd.D).length : Int) ≤ n := by omega
      rw [if_pos (.inr c2)]
      repeat' (first | refine run ⟨?_⟩ | refine ca (hr _) ?_ | fail)
      exact rfl
    have d2 : ¬ ((t.map Nd.D).length : Int) ≤ n := by omega
    rw [if_neg (by omega)]
    have hg := ndD_at (t := t) (k := n) (by omega) (by omega)
    have hi := fun H => isType_ev (fx := fx) H (nd t n.toNat).k
    have ht := text_ev (fx := fx) t hf hT.nod t.length n.toNat (by omega) (by omega)
    rw [Int.toNat_of_nonneg (by omega)] at ht
    show WQ _ _ _ _ _ _ (retK _ _ fun v _ => v = V.tup [str (if isTy (nd t n.toNat).k = true then (tyT t t.length n.toNat, (0 : Int)) else ([], 1)).1, i64 (if isTy (nd t n.toNat).k = true then (tyT t t.length n.toNat, (0 : Int)) else ([], 1)).2])
    cases hb : isTy (nd t n.toNat).k with
    | false =>
      rw [hb] at hi
      repeat' (first | refine run ⟨?_⟩ | refine ca (hr _) ?_ | refine pickD hg ?_ | refine ca (hi _) ?_ | fail)
      exact rfl
    | true =>
      rw [hb] at hi
      repeat' (first | refine run ⟨?_⟩ | refine ca (hr _) ?_ | refine pickD hg ?_ | refine ca (hi _) ?_ | refine ca (ht _) ?_ | fail)
      exact rfl
set_option maxHeartbeats 1000000 in
theorem rtype_ev (t : List Nd) (hf : Fine t) (n : Int) (H : Hp) : evF (pgL fx) n_ref13_Type [.d (treeD t), i64 n] H = some (.tup [str (tyA t n).1, i64 (tyA t n).2], H) := by
  refine evF_wq t_ref13_Type rfl rfl ?_ H
  have htl := hf.len
  have hnl : (t.map Nd.D).length = t.length := List.length_map ..
  have hr := fun H => rright_ev (fx := fx) H t hf
  unfold tyA
  cases hc : checkB t with
  | false =>
    rw [hc] at hr
    repeat' (first | refine run ⟨?_⟩ | refine ca (hr _) ?_ | fail)
    exact rfl
  | true =>
    rw [hc] at hr
    rw [if_pos rfl]
    obtain ⟨up, hT⟩ := treeOk hc
    by_cases c1 : n < 0
    · rw [if_pos (.inl c1)]
      repeat' (first | refine run ⟨?_⟩ | refine ca (hr _) ?_ | fail)
      exact rfl
    by_cases c2 : (t.length : Int) ≤ n
    · have d2 : ((t.map Nd.D).length : Int) ≤ n := by omega
      rw [if_pos (.inr c2)]
      repeat' (first | refine run ⟨?_⟩ | refine ca (hr _) ?_ | fail)
      exact rfl
    have d2 : ¬ ((t.map Nd.D).length : Int) ≤ n := by omega
    rw [if_neg (by omega)]
    have hg := ndD_at (t := t) (k := n) (by omega) (by omega)
    have hi := fun H => risType_ev (fx := fx) H (nd t n.toNat).k
    have ht := rtext_ev (fx := fx) t hf hT.nod t.length n.toNat (by omega) (by omega)
    rw [Int.toNat_of_nonneg (by omega)] at ht
    show WQ _ _ _ _ _ _ (retK _ _ fun v _ => v = V.tup [str (if isTy (nd t n.toNat).k = true then (tyT t t.length n.toNat, (0 : Int)) else ([], 1)).1, i64 (if isTy (nd t n.toNat).k = true then (tyT t t.length n.toNat, (0 : Int)) else ([], 1)).2])
    cases hb : isTy (nd t n.toNat).k with
    | false =>
      rw [hb] at hi
      repeat' (first | refine run ⟨?_⟩ | refine ca (hr _) ?_ | refine pickD hg ?_ | refine ca (hi _) ?_ | fail)
      exact rfl
    | true =>
      rw [hb] at hi
      repeat' (first | refine run ⟨?_⟩ | refine ca (hr _) ?_ | refine pickD hg ?_ | refine ca (hi _) ?_ | refine ca (ht _) ?_ | fail)
      exact rfl
end
end Go.Vm.Tre
