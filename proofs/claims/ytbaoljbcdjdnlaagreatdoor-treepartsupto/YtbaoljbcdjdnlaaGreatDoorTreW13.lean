import Derived.Test.YtbaoljbcdjdnlaaGreatDoorTreW9
import Derived.Test.YtbaoljbcdjdnlaaGreatDoorVmSt
set_option linter.unusedSimpArgs false
set_option linter.unusedVariables false
namespace Go.Vm.Tre
open Go.Vm.Tp
set_option maxRecDepth 10000
set_option linter.unusedSimpArgs false
theorem one_of {α : Type} {l : List α} (h : l.length = 1) : ∃ a, l = [a] := by
  match l, h with
  | [a], _ => exact ⟨a, rfl⟩
theorem two_of {α : Type} {l : List α} (h : l.length = 2) : ∃ a b, l = [a, b] := by
  match l, h with
  | [a, b], _ => exact ⟨a, b, rfl⟩
theorem three_of {α : Type} {l : List α} (h : l.length = 3) : ∃ a b c, l = [a, b, c] := by
  match l, h with
  | [a, b, c], _ => exact ⟨a, b, c, rfl⟩
section
variable {fx : Nat → Option Obj} {t : List Nd} {m : Int} {N : Int → Toks} (hN : NodOk fx t m N)
include hN
set_option maxHeartbeats 1000000 in
theorem typ_ev (x : Nd) (hk : ∀ k ∈ x.kids, 0 ≤ k ∧ k < m) (hkn : isTy x.k = true) (hlen : lenOk x.k x.kids.length) (l : Toks) (X : Hp) (hl : l.length + (typT N x).length ≤ LIM) : evF (pgL fx) n_tree_printer_typ [.ptr 1 0, ndV x] (PH t l ++ X) = some (.tup [], PH t (l ++ typT N x) ++ X) := by
  refine evF_ext (mv fx) (h := PH t l) (h' := PH t (l ++ typT N x)) ?_ rfl rfl rfl rfl rfl
  obtain ⟨q, tx, v, kids, f, e⟩ := x
  refine evF_wqOn t_tree_printer_typ rfl rfl rfl ?_
  simp only [isTy, Bool.and_eq_true, decide_eq_true_eq] at hk hkn hlen hl ⊢
  by_cases c10 : q = 10
  · subst c10
    have e0 : typT N ⟨10, tx, v, kids, f, e⟩ = [[105, 54, 52]] := by first | rfl | simp [typT, *]
    rw [e0] at hl ⊢
    try simp only [List.length_append, List.length_cons, List.length_nil] at hl
    repeat' (first | refine run ⟨?_⟩ | refine ca (operand_ev hN _ _ ⟨by assumption, by assumption⟩ (by omega) _ _ (by first | omega | (simp only [List.take_length, List.length_append, List.length_cons, List.length_nil]; omega))) ?_ | refine ca (list_ev hN _ (by assumption) (by omega) _ _ (by first | omega | (simp only [List.take_length, List.length_append, List.length_cons, List.length_nil]; omega))) ?_ | refine ca (perhaps_ev hN _ (by assumption) _ _ (by first | omega | (simp only [List.take_length, List.length_append, List.length_cons, List.length_nil]; omega))) ?_ | refine and_t (decide_eq_true (by assumption)) ?_ | refine gt_t (decide_eq_true (by assumption)) ?_ | refine gd_t (decide_eq_true (by assumption)) ?_ | refine and_f (decide_eq_false (by assumption)) ?_ | refine gt_f (decide_eq_false (by assumption)) ?_ | refine gd_f (decide_eq_false (by assumption)) ?_ | refine ca (put1 _ _ _ (by first | omega | (simp only [List.take_length, List.length_append, List.length_cons, List.length_nil]; omega))) ?_ | refine ca (put2 _ _ _ _ (by first | omega | (simp only [List.take_length, List.length_append, List.length_cons, List.length_nil]; omega))) ?_ | refine ca (put3 _ _ _ _ _ (by first | omega | (simp only [List.take_length, List.length_append, List.length_cons, List.length_nil]; omega))) ?_ | refine ca (hN _ (by assumption) (by assumption) _ _ (by first | omega | (simp only [List.take_length, List.length_append, List.length_cons, List.length_nil]; omega))) ?_ | fail)
    first | exact ⟨rfl, by show PH t _ = PH t _; simp only [List.take_length, List.append_assoc, List.cons_append, List.nil_append, List.append_nil]⟩ | (show PH t _ = PH t _; simp only [List.take_length, List.append_assoc, List.cons_append, List.nil_append, List.append_nil])
  by_cases c11 : q = 11
  · subst c11
    have e0 : typT N ⟨11, tx, v, kids, f, e⟩ = [[98, 111, 111, 108]] := by first | rfl | simp [typT, *]
    rw [e0] at hl ⊢
    try simp only [List.length_append, List.length_cons, List.length_nil] at hl
    repeat' (first | refine run ⟨?_⟩ | refine ca (operand_ev hN _ _ ⟨by assumption, by assumption⟩ (by omega) _ _ (by first | omega | (simp only [List.take_length, List.length_append, List.length_cons, List.length_nil]; omega))) ?_ | refine ca (list_ev hN _ (by assumption) (by omega) _ _ (by first | omega | (simp only [List.take_length, List.length_append, List.length_cons, List.length_nil]; omega))) ?_ | refine ca (perhaps_ev hN _ (by assumption) _ _ (by first | omega | (simp only [List.take_length, List.length_append, List.length_cons, List.length_nil]; omega))) ?_ | refine and_t (decide_eq_true (by assumption)) ?_ | refine gt_t (decide_eq_true (by assumption)) ?_ | refine gd_t (decide_eq_true (by assumption)) ?_ | refine and_f (decide_eq_false (by assumption)) ?_ | refine gt_f (decide_eq_false (by assumption)) ?_ | refine gd_f (decide_eq_false (by assumption)) ?_ | refine ca (put1 _ _ _ (by first | omega | (simp only [List.take_length, List.length_append, List.length_cons, List.length_nil]; omega))) ?_ | refine ca (put2 _ _ _ _ (by first | omega | (simp only [List.take_length, List.length_append, List.length_cons, List.length_nil]; omega))) ?_ | refine ca (put3 _ _ _ _ _ (by first | omega | (simp only [List.take_length, List.length_append, List.length_cons, List.length_nil]; omega))) ?_ | refine ca (hN _ (by assumption) (by assumption) _ _ (by first | omega | (simp only [List.take_length, List.length_append, List.length_cons, List.length_nil]; omega))) ?_ | fail)
    first | exact ⟨rfl, by show PH t _ = PH t _; simp only [List.take_length, List.append_assoc, List.cons_append, List.nil_append, List.append_nil]⟩ | (show PH t _ = PH t _; simp only [List.take_length, List.append_assoc, List.cons_append, List.nil_append, List.append_nil])
  by_cases c12 : q = 12
  · subst c12
    have e0 : typT N ⟨12, tx, v, kids, f, e⟩ = [[40], [41]] := by first | rfl | simp [typT, *]
    rw [e0] at hl ⊢
    try simp only [List.length_append, List.length_cons, List.length_nil] at hl
    repeat' (first | refine run ⟨?_⟩ | refine ca (operand_ev hN _ _ ⟨by assumption, by assumption⟩ (by omega) _ _ (by first | omega | (simp only [List.take_length, List.length_append, List.length_cons, List.length_nil]; omega))) ?_ | refine ca (list_ev hN _ (by assumption) (by omega) _ _ (by first | omega | (simp only [List.take_length, List.length_append, List.length_cons, List.length_nil]; omega))) ?_ | refine ca (perhaps_ev hN _ (by assumption) _ _ (by first | omega | (simp only [List.take_length, List.length_append, List.length_cons, List.length_nil]; omega))) ?_ | refine and_t (decide_eq_true (by assumption)) ?_ | refine gt_t (decide_eq_true (by assumption)) ?_ | refine gd_t (decide_eq_true (by assumption)) ?_ | refine and_f (decide_eq_false (by assumption)) ?_ | refine gt_f (decide_eq_false (by assumption)) ?_ | refine gd_f (decide_eq_false (by assumption)) ?_ | refine ca (put1 _ _ _ (by first | omega | (simp only [List.take_length, List.length_append, List.length_cons, List.length_nil]; omega))) ?_ | refine ca (put2 _ _ _ _ (by first | omega | (simp only [List.take_length, List.length_append, List.length_cons, List.length_nil]; omega))) ?_ | refine ca (put3 _ _ _ _ _ (by first | omega | (simp only [List.take_length, List.length_append, List.length_cons, List.length_nil]; omega))) ?_ | refine ca (hN _ (by assumption) (by assumption) _ _ (by first | omega | (simp only [List.take_length, List.length_append, List.length_cons, List.length_nil]; omega))) ?_ | fail)
    first | exact ⟨rfl, by show PH t _ = PH t _; simp only [List.take_length, List.append_assoc, List.cons_append, List.nil_append, List.append_nil]⟩ | (show PH t _ = PH t _; simp only [List.take_length, List.append_assoc, List.cons_append, List.nil_append, List.append_nil])
  by_cases c13 : q = 13
  · subst c13
    have e0 : typT N ⟨13, tx, v, kids, f, e⟩ = [tx] := by first | rfl | simp [typT, *]
    rw [e0] at hl ⊢
    try simp only [List.length_append, List.length_cons, List.length_nil] at hl
    repeat' (first | refine run ⟨?_⟩ | refine ca (operand_ev hN _ _ ⟨by assumption, by assumption⟩ (by omega) _ _ (by first | omega | (simp only [List.take_length, List.length_append, List.length_cons, List.length_nil]; omega))) ?_ | refine ca (list_ev hN _ (by assumption) (by omega) _ _ (by first | omega | (simp only [List.take_length, List.length_append, List.length_cons, List.length_nil]; omega))) ?_ | refine ca (perhaps_ev hN _ (by assumption) _ _ (by first | omega | (simp only [List.take_length, List.length_append, List.length_cons, List.length_nil]; omega))) ?_ | refine and_t (decide_eq_true (by assumption)) ?_ | refine gt_t (decide_eq_true (by assumption)) ?_ | refine gd_t (decide_eq_true (by assumption)) ?_ | refine and_f (decide_eq_false (by assumption)) ?_ | refine gt_f (decide_eq_false (by assumption)) ?_ | refine gd_f (decide_eq_false (by assumption)) ?_ | refine ca (put1 _ _ _ (by first | omega | (simp only [List.take_length, List.length_append, List.length_cons, List.length_nil]; omega))) ?_ | refine ca (put2 _ _ _ _ (by first | omega | (simp only [List.take_length, List.length_append, List.length_cons, List.length_nil]; omega))) ?_ | refine ca (put3 _ _ _ _ _ (by first | omega | (simp only [List.take_length, List.length_append, List.length_cons, List.length_nil]; omega))) ?_ | refine ca (hN _ (by assumption) (by assumption) _ _ (by first | omega | (simp only [List.take_length, List.length_append, List.length_cons, List.length_nil]; omega))) ?_ | fail)
    first | exact ⟨rfl, by show PH t _ = PH t _; simp only [List.take_length, List.append_assoc, List.cons_append, List.nil_append, List.append_nil]⟩ | (show PH t _ = PH t _; simp only [List.take_length, List.append_assoc, List.cons_append, List.nil_append, List.append_nil])
  by_cases c14 : q = 14
  · subst c14
    obtain ⟨a, rfl⟩ := one_of (hlen.2.1 (by omega))
    obtain ⟨ha, ha'⟩ := hk a (by simp)
    have e0 : typT N ⟨14, tx, v, [a], f, e⟩ = [[38]] ++ N a := by first | rfl | simp [typT, *]
    rw [e0] at hl ⊢
    try simp only [List.length_append, List.length_cons, List.length_nil] at hl
    repeat' (first | refine run ⟨?_⟩ | refine ca (operand_ev hN _ _ ⟨by assumption, by assumption⟩ (by omega) _ _ (by first | omega | (simp only [List.take_length, List.length_append, List.length_cons, List.length_nil]; omega))) ?_ | refine ca (list_ev hN _ (by assumption) (by omega) _ _ (by first | omega | (simp only [List.take_length, List.length_append, List.length_cons, List.length_nil]; omega))) ?_ | refine ca (perhaps_ev hN _ (by assumption) _ _ (by first | omega | (simp only [List.take_length, List.length_append, List.length_cons, List.length_nil]; omega))) ?_ | refine and_t (decide_eq_true (by assumption)) ?_ | refine gt_t (decide_eq_true (by assumption)) ?_ | refine gd_t (decide_eq_true (by assumption)) ?_ | refine and_f (decide_eq_false (by assumption)) ?_ | refine gt_f (decide_eq_false (by assumption)) ?_ | refine gd_f (decide_eq_false (by assumption)) ?_ | refine ca (put1 _ _ _ (by first | omega | (simp only [List.take_length, List.length_append, List.length_cons, List.length_nil]; omega))) ?_ | refine ca (put2 _ _ _ _ (by first | omega | (simp only [List.take_length, List.length_append, List.length_cons, List.length_nil]; omega))) ?_ | refine ca (put3 _ _ _ _ _ (by first | omega | (simp only [List.take_length, List.length_append, List.length_cons, List.length_nil]; omega))) ?_ | refine ca (hN _ (by assumption) (by assumption) _ _ (by first | omega | (simp only [List.take_length, List.length_append, List.length_cons, List.length_nil]; omega))) ?_ | fail)
    first | exact ⟨rfl, by show PH t _ = PH t _; simp only [List.take_length, List.append_assoc, List.cons_append, List.nil_append, List.append_nil]⟩ | (show PH t _ = PH t _; simp only [List.take_length, List.append_assoc, List.cons_append, List.nil_append, List.append_nil])
  by_cases c15 : q = 15
  · subst c15
    obtain ⟨a, rfl⟩ := one_of (hlen.2.1 (by omega))
    obtain ⟨ha, ha'⟩ := hk a (by simp)
    have e0 : typT N ⟨15, tx, v, [a], f, e⟩ = [[38], [109, 117, 116]] ++ N a := by first | rfl | simp [typT, *]
    rw [e0] at hl ⊢
    try simp only [List.length_append, List.length_cons, List.length_nil] at hl
    repeat' (first | refine run ⟨?_⟩ | refine ca (operand_ev hN _ _ ⟨by assumption, by assumption⟩ (by omega) _ _ (by first | omega | (simp only [List.take_length, List.length_append, List.length_cons, List.length_nil]; omega))) ?_ | refine ca (list_ev hN _ (by assumption) (by omega) _ _ (by first | omega | (simp only [List.take_length, List.length_append, List.length_cons, List.length_nil]; omega))) ?_ | refine ca (perhaps_ev hN _ (by assumption) _ _ (by first | omega | (simp only [List.take_length, List.length_append, List.length_cons, List.length_nil]; omega))) ?_ | refine and_t (decide_eq_true (by assumption)) ?_ | refine gt_t (decide_eq_true (by assumption)) ?_ | refine gd_t (decide_eq_true (by assumption)) ?_ | refine and_f (decide_eq_false (by assumption)) ?_ | refine gt_f (decide_eq_false (by assumption)) ?_ | refine gd_f (decide_eq_false (by assumption)) ?_ | refine ca (put1 _ _ _ (by first | omega | (simp only [List.take_length, List.length_append, List.length_cons, List.length_nil]; omega))) ?_ | refine ca (put2 _ _ _ _ (by first | omega | (simp only [List.take_length, List.length_append, List.length_cons, List.length_nil]; omega))) ?_ | refine ca (put3 _ _ _ _ _ (by first | omega | (simp only [List.take_length, List.length_append, List.length_cons, List.length_nil]; omega))) ?_ | refine ca (hN _ (by assumption) (by assumption) _ _ (by first | omega | (simp only [List.take_length, List.length_append, List.length_cons, List.length_nil]; omega))) ?_ | fail)
    first | exact ⟨rfl, by show PH t _ = PH t _; simp only [List.take_length, List.append_assoc, List.cons_append, List.nil_append, List.append_nil]⟩ | (show PH t _ = PH t _; simp only [List.take_length, List.append_assoc, List.cons_append, List.nil_append, List.append_nil])
  by_cases c16 : q = 16
  · subst c16
    obtain ⟨a, rfl⟩ := one_of (hlen.2.1 (by omega))
    obtain ⟨ha, ha'⟩ := hk a (by simp)
    have e0 : typT N ⟨16, tx, v, [a], f, e⟩ = [[66, 111, 120], [60]] ++ N a ++ [[62]] := by first | rfl | simp [typT, *]
    rw [e0] at hl ⊢
    try simp only [List.length_append, List.length_cons, List.length_nil] at hl
    repeat' (first | refine run ⟨?_⟩ | refine ca (operand_ev hN _ _ ⟨by assumption, by assumption⟩ (by omega) _ _ (by first | omega | (simp only [List.take_length, List.length_append, List.length_cons, List.length_nil]; omega))) ?_ | refine ca (list_ev hN _ (by assumption) (by omega) _ _ (by first | omega | (simp only [List.take_length, List.length_append, List.length_cons, List.length_nil]; omega))) ?_ | refine ca (perhaps_ev hN _ (by assumption) _ _ (by first | omega | (simp only [List.take_length, List.length_append, List.length_cons, List.length_nil]; omega))) ?_ | refine and_t (decide_eq_true (by assumption)) ?_ | refine gt_t (decide_eq_true (by assumption)) ?_ | refine gd_t (decide_eq_true (by assumption)) ?_ | refine and_f (decide_eq_false (by assumption)) ?_ | refine gt_f (decide_eq_false (by assumption)) ?_ | refine gd_f (decide_eq_false (by assumption)) ?_ | refine ca (put1 _ _ _ (by first | omega | (simp only [List.take_length, List.length_append, List.length_cons, List.length_nil]; omega))) ?_ | refine ca (put2 _ _ _ _ (by first | omega | (simp only [List.take_length, List.length_append, List.length_cons, List.length_nil]; omega))) ?_ | refine ca (put3 _ _ _ _ _ (by first | omega | (simp only [List.take_length, List.length_append, List.length_cons, List.length_nil]; omega))) ?_ | refine ca (hN _ (by assumption) (by assumption) _ _ (by first | omega | (simp only [List.take_length, List.length_append, List.length_cons, List.length_nil]; omega))) ?_ | fail)
    first | exact ⟨rfl, by show PH t _ = PH t _; simp only [List.take_length, List.append_assoc, List.cons_append, List.nil_append, List.append_nil]⟩ | (show PH t _ = PH t _; simp only [List.take_length, List.append_assoc, List.cons_append, List.nil_append, List.append_nil])
  omega
set_option maxHeartbeats 1000000 in
theorem let_ev (x : Nd) (hk : ∀ k ∈ x.kids, 0 ≤ k ∧ k < m) (hlen : x.kids.length = 1 ∨ x.kids.length = 2) (l : Toks) (X : Hp) (hl : l.length + (letT N x).length ≤ LIM) : evF (pgL fx) n_tree_printer_let [.ptr 1 0, ndV x] (PH t l ++ X) = some (.tup [], PH t (l ++ letT N x) ++ X) := by
  refine evF_ext (mv fx) (h := PH t l) (h' := PH t (l ++ letT N x)) ?_ rfl rfl rfl rfl rfl
  obtain ⟨q, tx, v, kids, f, e⟩ := x
  refine evF_wqOn t_tree_printer_let rfl rfl rfl ?_
  simp only at hk hlen hl ⊢
  rcases hlen with hlen | hlen
  · obtain ⟨a, rfl⟩ := one_of (hlen)
    obtain ⟨ha, ha'⟩ := hk a (by simp)
    by_cases hv : v = 1
    · subst hv
      have e0 : letT N ⟨q, tx, 1, [a], f, e⟩ = [[108, 101, 116]] ++ [[109, 117, 116]] ++ [tx] ++ [] ++ [[61]] ++ N a ++ [[59]] := by rfl
      rw [e0] at hl ⊢
      try simp only [List.length_append, List.length_cons, List.length_nil] at hl
      repeat' (first | refine run ⟨?_⟩ | refine ca (operand_ev hN _ _ ⟨by assumption, by assumption⟩ (by omega) _ _ (by first | omega | (simp only [List.take_length, List.length_append, List.length_cons, List.length_nil]; omega))) ?_ | refine ca (list_ev hN _ (by assumption) (by omega) _ _ (by first | omega | (simp only [List.take_length, List.length_append, List.length_cons, List.length_nil]; omega))) ?_ | refine ca (perhaps_ev hN _ (by assumption) _ _ (by first | omega | (simp only [List.take_length, List.length_append, List.length_cons, List.length_nil]; omega))) ?_ | refine and_t (decide_eq_true (by assumption)) ?_ | refine gt_t (decide_eq_true (by assumption)) ?_ | refine gd_t (decide_eq_true (by assumption)) ?_ | refine and_f (decide_eq_false (by assumption)) ?_ | refine gt_f (decide_eq_false (by assumption)) ?_ | refine gd_f (decide_eq_false (by assumption)) ?_ | refine ca (put1 _ _ _ (by first | omega | (simp only [List.take_length, List.length_append, List.length_cons, List.length_nil]; omega))) ?_ | refine ca (put2 _ _ _ _ (by first | omega | (simp only [List.take_length, List.length_append, List.length_cons, List.length_nil]; omega))) ?_ | refine ca (put3 _ _ _ _ _ (by first | omega | (simp only [List.take_length, List.length_append, List.length_cons, List.length_nil]; omega))) ?_ | refine ca (hN _ (by assumption) (by assumption) _ _ (by first | omega | (simp only [List.take_length, List.length_append, List.length_cons, List.length_nil]; omega))) ?_ | fail)
      first | exact ⟨rfl, by show PH t _ = PH t _; simp only [List.take_length, List.append_assoc, List.cons_append, List.nil_append, List.append_nil]⟩ | (show PH t _ = PH t _; simp only [List.take_length, List.append_assoc, List.cons_append, List.nil_append, List.append_nil])
    · skip
      have e0 : letT N ⟨q, tx, v, [a], f, e⟩ = [[108, 101, 116]] ++ [] ++ [tx] ++ [] ++ [[61]] ++ N a ++ [[59]] := by unfold letT; simp only [if_neg hv]; rfl
      rw [e0] at hl ⊢
      try simp only [List.length_append, List.length_cons, List.length_nil] at hl
      repeat' (first | refine run ⟨?_⟩ | refine ca (operand_ev hN _ _ ⟨by assumption, by assumption⟩ (by omega) _ _ (by first | omega | (simp only [List.take_length, List.length_append, List.length_cons, List.length_nil]; omega))) ?_ | refine ca (list_ev hN _ (by assumption) (by omega) _ _ (by first | omega | (simp only [List.take_length, List.length_append, List.length_cons, List.length_nil]; omega))) ?_ | refine ca (perhaps_ev hN _ (by assumption) _ _ (by first | omega | (simp only [List.take_length, List.length_append, List.length_cons, List.length_nil]; omega))) ?_ | refine and_t (decide_eq_true (by assumption)) ?_ | refine gt_t (decide_eq_true (by assumption)) ?_ | refine gd_t (decide_eq_true (by assumption)) ?_ | refine and_f (decide_eq_false (by assumption)) ?_ | refine gt_f (decide_eq_false (by assumption)) ?_ | refine gd_f (decide_eq_false (by assumption)) ?_ | refine ca (put1 _ _ _ (by first | omega | (simp only [List.take_length, List.length_append, List.length_cons, List.length_nil]; omega))) ?_ | refine ca (put2 _ _ _ _ (by first | omega | (simp only [List.take_length, List.length_append, List.length_cons, List.length_nil]; omega))) ?_ | refine ca (put3 _ _ _ _ _ (by first | omega | (simp only [List.take_length, List.length_append, List.length_cons, List.length_nil]; omega))) ?_ | refine ca (hN _ (by assumption) (by assumption) _ _ (by first | omega | (simp only [List.take_length, List.length_append, List.length_cons, List.length_nil]; omega))) ?_ | fail)
      first | exact ⟨rfl, by show PH t _ = PH t _; simp only [List.take_length, List.append_assoc, List.cons_append, List.nil_append, List.append_nil]⟩ | (show PH t _ = PH t _; simp only [List.take_length, List.append_assoc, List.cons_append, List.nil_append, List.append_nil])
  · obtain ⟨a, b, rfl⟩ := two_of (hlen)
    obtain ⟨ha, ha'⟩ := hk a (by simp)
    obtain ⟨hb, hb'⟩ := hk b (by simp)
    by_cases hv : v = 1
    · subst hv
      have e0 : letT N ⟨q, tx, 1, [a, b], f, e⟩ = [[108, 101, 116]] ++ [[109, 117, 116]] ++ [tx] ++ ([[58]] ++ N a) ++ [[61]] ++ N b ++ [[59]] := by rfl
      rw [e0] at hl ⊢
      try simp only [List.length_append, List.length_cons, List.length_nil] at hl
      repeat' (first | refine run ⟨?_⟩ | refine ca (operand_ev hN _ _ ⟨by assumption, by assumption⟩ (by omega) _ _ (by first | omega | (simp only [List.take_length, List.length_append, List.length_cons, List.length_nil]; omega))) ?_ | refine ca (list_ev hN _ (by assumption) (by omega) _ _ (by first | omega | (simp only [List.take_length, List.length_append, List.length_cons, List.length_nil]; omega))) ?_ | refine ca (perhaps_ev hN _ (by assumption) _ _ (by first | omega | (simp only [List.take_length, List.length_append, List.length_cons, List.length_nil]; omega))) ?_ | refine and_t (decide_eq_true (by assumption)) ?_ | refine gt_t (decide_eq_true (by assumption)) ?_ | refine gd_t (decide_eq_true (by assumption)) ?_ | refine and_f (decide_eq_false (by assumption)) ?_ | refine gt_f (decide_eq_false (by assumption)) ?_ | refine gd_f (decide_eq_false (by assumption)) ?_ | refine ca (put1 _ _ _ (by first | omega | (simp only [List.take_length, List.length_append, List.length_cons, List.length_nil]; omega))) ?_ | refine ca (put2 _ _ _ _ (by first | omega | (simp only [List.take_length, List.length_append, List.length_cons, List.length_nil]; omega))) ?_ | refine ca (put3 _ _ _ _ _ (by first | omega | (simp only [List.take_length, List.length_append, List.length_cons, List.length_nil]; omega))) ?_ | refine ca (hN _ (by assumption) (by assumption) _ _ (by first | omega | (simp only [List.take_length, List.length_append, List.length_cons, List.length_nil]; omega))) ?_ | fail)
      first | exact ⟨rfl, by show PH t _ = PH t _; simp only [List.take_length, List.append_assoc, List.cons_append, List.nil_append, List.append_nil]⟩ | (show PH t _ = PH t _; simp only [List.take_length, List.append_assoc, List.cons_append, List.nil_append, List.append_nil])
    · skip
      have e0 : letT N ⟨q, tx, v, [a, b], f, e⟩ = [[108, 101, 116]] ++ [] ++ [tx] ++ ([[58]] ++ N a) ++ [[61]] ++ N b ++ [[59]] := by unfold letT; simp only [if_neg hv]; rfl
      rw [e0] at hl ⊢
      try simp only [List.length_append, List.length_cons, List.length_nil] at hl
      repeat' (first | refine run ⟨?_⟩ | refine ca (operand_ev hN _ _ ⟨by assumption, by assumption⟩ (by omega) _ _ (by first | omega | (simp only [List.take_length, List.length_append, List.length_cons, List.length_nil]; omega))) ?_ | refine ca (list_ev hN _ (by assumption) (by omega) _ _ (by first | omega | (simp only [List.take_length, List.length_append, List.length_cons, List.length_nil]; omega))) ?_ | refine ca (perhaps_ev hN _ (by assumption) _ _ (by first | omega | (simp only [List.take_length, List.length_append, List.length_cons, List.length_nil]; omega))) ?_ | refine and_t (decide_eq_true (by assumption)) ?_ | refine gt_t (decide_eq_true (by assumption)) ?_ | refine gd_t (decide_eq_true (by assumption)) ?_ | refine and_f (decide_eq_false (by assumption)) ?_ | refine gt_f (decide_eq_false (by assumption)) ?_ | refine gd_f (decide_eq_false (by assumption)) ?_ | refine ca (put1 _ _ _ (by first | omega | (simp only [List.take_length, List.length_append, List.length_cons, List.length_nil]; omega))) ?_ | refine ca (put2 _ _ _ _ (by first | omega | (simp only [List.take_length, List.length_append, List.length_cons, List.length_nil]; omega))) ?_ | refine ca (put3 _ _ _ _ _ (by first | omega | (simp only [List.take_length, List.length_append, List.length_cons, List.length_nil]; omega))) ?_ | refine ca (hN _ (by assumption) (by assumption) _ _ (by first | omega | (simp only [List.take_length, List.length_append, List.length_cons, List.length_nil]; omega))) ?_ | fail)
      first | exact ⟨rfl, by show PH t _ = PH t _; simp only [List.take_length, List.append_assoc, List.cons_append, List.nil_append, List.append_nil]⟩ | (show PH t _ = PH t _; simp only [List.take_length, List.append_assoc, List.cons_append, List.nil_append, List.append_nil])
theorem ahead_ev (q : Int) (tx : List UInt8) (v a f e : Int) (ts : Toks) (ha : 0 ≤ a) (ha' : a < m) (hm : m ≤ t.length) (l : Toks) (X : Hp) (hl : l.length + (ts ++ opdT t N a false).length ≤ LIM) : evF (pgL fx) n_tree_printer_ahead [.ptr 1 0, ndV ⟨q, tx, v, [a], f, e⟩, .d (.sl (ts.map .str))] (PH t l ++ X) = some (.tup [], PH t (l ++ (ts ++ opdT t N a false)) ++ X) := by
  refine evF_ext (mv fx) (h := PH t l) (h' := PH t (l ++ (ts ++ opdT t N a false))) ?_ rfl rfl rfl rfl rfl
  refine evF_wqOn t_tree_printer_ahead rfl rfl rfl ?_
  simp only [List.length_append] at hl
  repeat' (first | refine run ⟨?_⟩ | refine ca (put_ev l ts (by omega) _) ?_ | refine ca (operand_ev hN _ _ ⟨by assumption, by assumption⟩ (by omega) _ _ (by first | omega | (simp only [List.take_length, List.length_append, List.length_cons, List.length_nil]; omega))) ?_ | refine ca (put1 _ _ _ (by first | omega | (simp only [List.take_length, List.length_append, List.length_cons, List.length_nil]; omega))) ?_ | refine ca (put2 _ _ _ _ (by first | omega | (simp only [List.take_length, List.length_append, List.length_cons, List.length_nil]; omega))) ?_ | refine ca (put3 _ _ _ _ _ (by first | omega | (simp only [List.take_length, List.length_append, List.length_cons, List.length_nil]; omega))) ?_ | refine ca (hN _ (by assumption) (by assumption) _ _ (by first | omega | (simp only [List.take_length, List.length_append, List.length_cons, List.length_nil]; omega))) ?_ | fail)
  first | exact ⟨rfl, by show PH t _ = PH t _; simp only [List.take_length, List.append_assoc, List.cons_append, List.nil_append, List.append_nil]⟩ | (show PH t _ = PH t _; simp only [List.take_length, List.append_assoc, List.cons_append, List.nil_append, List.append_nil])
omit hN in
theorem named_ev (s : List UInt8) (hs : s.length ≤ 1048576) (l : Toks) (X : Hp) (hl : l.length + (namT s).length ≤ LIM) : evF (pgL fx) n_tree_printer_named [.ptr 1 0, str s] (PH t l ++ X) = some (.tup [], PH t (l ++ namT s) ++ X) := by
  refine evF_ext (mv fx) (h := PH t l) (h' := PH t (l ++ namT s)) ?_ rfl rfl rfl rfl rfl
  refine evF_wpOn t_tree_printer_named rfl rfl rfl ?_
  refine ca (cut_ev _ s hs) ?_
  refine ca (put_ev l (namT s) hl _) ?_
  exact ⟨rfl, rfl⟩
end
end Go.Vm.Tre
namespace Go.Vm.Tre
open Go.Vm.Tp
set_option maxRecDepth 10000
set_option linter.unusedSimpArgs false
section
variable {fx : Nat → Option Obj} {t : List Nd} {m : Int} {N : Int → Toks} (hN : NodOk fx t m N)
include hN
set_option maxHeartbeats 1000000 in
theorem function_ev (x : Nd) (hk : ∀ k ∈ x.kids, 0 ≤ k ∧ k < m) (hm : m ≤ t.length) (hfn : x.v = ((x.kids.length - 2 : Nat) : Int) ∧ 2 ≤ x.kids.length) (hkl : x.kids.length ≤ 1048576) (l : Toks) (X : Hp) (hl : l.length + (fnT t N x).length ≤ LIM) : evF (pgL fx) n_tree_printer_function [.ptr 1 0, ndV x] (PH t l ++ X) = some (.tup [], PH t (l ++ fnT t N x) ++ X) := by
  refine evF_ext (mv fx) (h := PH t l) (h' := PH t (l ++ fnT t N x)) ?_ rfl rfl rfl rfl rfl
  obtain ⟨q, tx, v, kids, f, e⟩ := x
  simp only at hk hfn hkl hl
  obtain ⟨hv, hn⟩ := hfn
  obtain ⟨n, hn'⟩ : ∃ n, kids.length = n + 2 := ⟨kids.length - 2, by omega⟩
  rw [hn', Nat.add_sub_cancel] at hv
  subst hv
  refine evF_wpOn t_tree_printer_function rfl rfl rfl ?_
  have k0 := hk _ (List.getElem_mem (show n < kids.length by omega))
  have k1 := hk _ (List.getElem_mem (show n + 1 < kids.length by omega))
  have e0 : kids.getD n 0 = kids[n] := by simp [show n < kids.length by omega]
  have e1 : kids.getD (n + 1) 0 = kids[n + 1] := by simp [show n + 1 < kids.length by omega]
  rw [← e0] at k0
  rw [← e1] at k1
  obtain ⟨p0, q0⟩ := k0
  obtain ⟨p1, q1⟩ := k1
  have hkt : ∀ k ∈ kids.take n, 0 ≤ k ∧ k < m := fun k h => hk k (List.mem_of_mem_take h)
  have ex : ∀ r, fnT t N ⟨q, tx, (n : Int), kids, f, e⟩ = r ↔ [[102, 110], tx, [40]] ++ lstT N (kids.take n) ++ [[41]] ++ (if kindAt t (kids.getD n 0) = 12 then [] else [[45, 62]] ++ N (kids.getD n 0)) ++ N (kids.getD (n + 1) 0) = r := fun r => Iff.rfl
  obtain ⟨r, hr⟩ : ∃ r, r = fnT t N ⟨q, tx, (n : Int), kids, f, e⟩ := ⟨_, rfl⟩
  rw [← hr] at hl ⊢
  have hr := (ex r).1 hr.symm
  clear ex
  refine ca (put3 _ _ _ _ _ (by rw [← hr] at hl; simp only [List.length_append, List.length_cons, List.length_nil] at hl; omega)) ?_
  have hlen : (kids.map (D.int .i64)).length = n + 2 := by rw [List.length_map]; exact hn'
  refine And.intro (Int.natCast_nonneg n) ?_
  refine And.intro ⟨Nat.zero_le _, by show Int.toNat (n : Int) ≤ (kids.map (D.int .i64)).length; omega, rfl⟩ ?_
  have etk : List.drop 0 (List.take (Int.toNat ((n : Nat) : Int)) (kids.map (D.int .i64))) = (kids.take n).map (D.int .i64) := by rw [List.drop_zero, List.map_take]; rfl
  refine ca (show evF _ _ [_, .d (.sl (List.drop 0 (List.take (Int.toNat ((n : Nat) : Int)) (kids.map (D.int .i64)))))] _ = _ from by rw [etk]; exact list_ev hN (kids.take n) hkt (by rw [List.length_take]; omega) (l ++ [[102, 110], tx, [40]]) _ (by rw [← hr] at hl; simp only [List.length_append, List.length_cons, List.length_nil] at hl ⊢; omega)) ?_
  refine ca (put1 (l ++ [[102, 110], tx, [40]] ++ lstT N (kids.take n)) _ _ (by rw [← hr] at hl; simp only [List.length_append, List.length_cons, List.length_nil] at hl ⊢; omega)) ?_
  refine pickD (d := .int .i64 (kids.getD n 0)) ⟨Int.natCast_nonneg n, getK (l := kids) (j := n) (by omega)⟩ ?_
  obtain ⟨⟨q', xt', xv', xk', xf', xe'⟩, hx⟩ : ∃ x, x = nd t (kids.getD n 0).toNat := ⟨_, rfl⟩
  refine And.intro rfl ?_
  refine pickD (d := Nd.D ⟨q', xt', xv', xk', xf', xe'⟩) (by rw [hx]; exact ndD_at p0 (by omega)) ?_
  refine And.intro rfl ?_
  have hq : kindAt t (kids.getD n 0) = q' := by show (nd t (kids.getD n 0).toNat).k = q'; rw [← hx]
  rw [hq] at hr
  by_cases c : q' = 12
  · rw [if_pos c] at hr
    subst hr
    try simp only [List.length_append, List.length_cons, List.length_nil] at hl
    refine and_f (by rw [c]; rfl) ?_
    refine pickD (d := .int .i64 (kids.getD (n + 1) 0)) ⟨by show 0 ≤ IntKind.i64.wrap ((n : Int) + 1); rw [i64w (by omega)]; omega, by show (kids.map (D.int .i64))[(IntKind.i64.wrap ((n : Int) + 1)).toNat]? = _; rw [i64w (by omega)]; exact getK (l := kids) (j := n + 1) (by omega)⟩ ?_
    refine And.intro rfl ?_
    refine ca (hN _ p1 q1 _ _ (by first | omega | (simp only [List.take_length, List.length_append, List.length_cons, List.length_nil]; omega))) ?_
    first | exact ⟨rfl, by show PH t _ = PH t _; simp only [List.take_length, List.append_assoc, List.cons_append, List.nil_append, List.append_nil]⟩ | (show PH t _ = PH t _; simp only [List.take_length, List.append_assoc, List.cons_append, List.nil_append, List.append_nil])
  · rw [if_neg c] at hr
    subst hr
    try simp only [List.length_append, List.length_cons, List.length_nil] at hl
    refine and_t (by simp [c]) ?_
    refine ca (put1 _ _ _ (by first | omega | (simp only [List.take_length, List.length_append, List.length_cons, List.length_nil]; omega))) ?_
    refine pickD (d := .int .i64 (kids.getD n 0)) ⟨Int.natCast_nonneg n, getK (l := kids) (j := n) (by omega)⟩ ?_
    refine And.intro rfl ?_
    refine ca (hN _ p0 q0 _ _ (by first | omega | (simp only [List.take_length, List.length_append, List.length_cons, List.length_nil]; omega))) ?_
    refine pickD (d := .int .i64 (kids.getD (n + 1) 0)) ⟨by show 0 ≤ IntKind.i64.wrap ((n : Int) + 1); rw [i64w (by omega)]; omega, by show (kids.map (D.int .i64))[(IntKind.i64.wrap ((n : Int) + 1)).toNat]? = _; rw [i64w (by omega)]; exact getK (l := kids) (j := n + 1) (by omega)⟩ ?_
    refine And.intro rfl ?_
    refine ca (hN _ p1 q1 _ _ (by first | omega | (simp only [List.take_length, List.length_append, List.length_cons, List.length_nil]; omega))) ?_
    first | exact ⟨rfl, by show PH t _ = PH t _; simp only [List.take_length, List.append_assoc, List.cons_append, List.nil_append, List.append_nil]⟩ | (show PH t _ = PH t _; simp only [List.take_length, List.append_assoc, List.cons_append, List.nil_append, List.append_nil])
end
end Go.Vm.Tre
namespace Go.Vm.Tre
open Go.Vm.Tp
set_option maxRecDepth 10000
set_option linter.unusedSimpArgs false
section
variable {fx : Nat → Option Obj} {t : List Nd} {m : Int} {N : Int → Toks} (hN : NodOk fx t m N)
include hN
set_option maxHeartbeats 1000000 in
theorem item_ev (x : Nd) (hk : ∀ k ∈ x.kids, 0 ≤ k ∧ k < m) (hm : m ≤ t.length) (hkn : 1 ≤ x.k ∧ x.k ≤ 7) (hlen : lenOk x.k x.kids.length) (hkl : x.kids.length ≤ 1048576) (hfn : x.k = 2 → x.v = ((x.kids.length - 2 : Nat) : Int) ∧ 2 ≤ x.kids.length) (l : Toks) (X : Hp) (hl : l.length + (itemT t N x).length ≤ LIM) : evF (pgL fx) n_tree_printer_item [.ptr 1 0, ndV x] (PH t l ++ X) = some (.tup [], PH t (l ++ itemT t N x) ++ X) := by
  refine evF_ext (mv fx) (h := PH t l) (h' := PH t (l ++ itemT t N x)) ?_ rfl rfl rfl rfl rfl
  obtain ⟨q, tx, v, kids, f, e⟩ := x
  refine evF_wqOn t_tree_printer_item rfl rfl rfl ?_
  simp only at hk hkn hlen hkl hfn hl ⊢
  by_cases c1 : q = 1
  · subst c1
    have e0 : itemT t N ⟨1, tx, v, kids, f, e⟩ = kids.flatMap N := rfl
    rw [e0] at hl ⊢
    repeat' (first | refine run ⟨?_⟩ | refine ca (put1 _ _ _ (by first | omega | (simp only [List.take_length, List.length_append, List.length_cons, List.length_nil]; omega))) ?_ | refine ca (put2 _ _ _ _ (by first | omega | (simp only [List.take_length, List.length_append, List.length_cons, List.length_nil]; omega))) ?_ | refine ca (put3 _ _ _ _ _ (by first | omega | (simp only [List.take_length, List.length_append, List.length_cons, List.length_nil]; omega))) ?_ | refine ca (hN _ (by assumption) (by assumption) _ _ (by first | omega | (simp only [List.take_length, List.length_append, List.length_cons, List.length_nil]; omega))) ?_ | fail)
    show LoopK _ _ _ _ _ _ _
    refine wq_loop (α := Nat) (fun j => kids.length - j) (fun j => [(0, .ptr 1 0), (22, ints kids), (23, i64 kids.length), (24, i64 j)]) (fun j => PH t (l ++ (kids.take j).flatMap N) ++ [.box [i64 1, str tx, i64 v, ints kids, i64 f, i64 e]]) (fun j => j ≤ kids.length) ?_ 0 (by omega) ?_ ?_
    · intro j hj
      repeat' (first | refine run ⟨?_⟩ | refine ca (put1 _ _ _ (by first | omega | (simp only [List.take_length, List.length_append, List.length_cons, List.length_nil]; omega))) ?_ | refine ca (put2 _ _ _ _ (by first | omega | (simp only [List.take_length, List.length_append, List.length_cons, List.length_nil]; omega))) ?_ | refine ca (put3 _ _ _ _ _ (by first | omega | (simp only [List.take_length, List.length_append, List.length_cons, List.length_nil]; omega))) ?_ | refine ca (hN _ (by assumption) (by assumption) _ _ (by first | omega | (simp only [List.take_length, List.length_append, List.length_cons, List.length_nil]; omega))) ?_ | fail)
      refine And.intro (fun h => ?_) (fun h => ?_)
      · replace h := of_decide_eq_true h
        have hlt : j < kids.length := by omega
        have hkj := hk _ (List.getElem_mem hlt)
        have e : kids.getD j 0 = kids[j] := by simp [hlt]
        have hm := flat_mono N kids (j + 1)
        have ht := flat_take N kids j hlt
        rw [ht] at hm
        simp only [List.length_append] at hm
        repeat' (first | refine run ⟨?_⟩ | refine ca (put1 _ _ _ (by first | omega | (simp only [List.take_length, List.length_append, List.length_cons, List.length_nil]; omega))) ?_ | refine ca (put2 _ _ _ _ (by first | omega | (simp only [List.take_length, List.length_append, List.length_cons, List.length_nil]; omega))) ?_ | refine ca (put3 _ _ _ _ _ (by first | omega | (simp only [List.take_length, List.length_append, List.length_cons, List.length_nil]; omega))) ?_ | refine ca (hN _ (by assumption) (by assumption) _ _ (by first | omega | (simp only [List.take_length, List.length_append, List.length_cons, List.length_nil]; omega))) ?_ | fail)
        refine pickD (d := .int .i64 (kids.getD j 0)) ⟨by omega, getK hlt⟩ ?_
        refine And.intro rfl ?_
        have hk0 : 0 ≤ kids.getD j 0 := by rw [e]; exact hkj.1
        have hk1 : kids.getD j 0 < m := by rw [e]; exact hkj.2
        repeat' (first | refine run ⟨?_⟩ | refine ca (put1 _ _ _ (by first | omega | (simp only [List.take_length, List.length_append, List.length_cons, List.length_nil]; omega))) ?_ | refine ca (put2 _ _ _ _ (by first | omega | (simp only [List.take_length, List.length_append, List.length_cons, List.length_nil]; omega))) ?_ | refine ca (put3 _ _ _ _ _ (by first | omega | (simp only [List.take_length, List.length_append, List.length_cons, List.length_nil]; omega))) ?_ | refine ca (hN _ (by assumption) (by assumption) _ _ (by first | omega | (simp only [List.take_length, List.length_append, List.length_cons, List.length_nil]; omega))) ?_ | fail)
        refine ⟨j + 1, by omega, by omega, ?_, ?_⟩
        · rw [i64w (by omega)]; rfl
        · show PH t _ ++ _ = PH t _ ++ _
          rw [ht]; simp only [List.append_assoc]
      · replace h := of_decide_eq_false h
        have hj' : j = kids.length := by omega
        subst hj'
        repeat' (first | refine run ⟨?_⟩ | refine ca (put1 _ _ _ (by first | omega | (simp only [List.take_length, List.length_append, List.length_cons, List.length_nil]; omega))) ?_ | refine ca (put2 _ _ _ _ (by first | omega | (simp only [List.take_length, List.length_append, List.length_cons, List.length_nil]; omega))) ?_ | refine ca (put3 _ _ _ _ _ (by first | omega | (simp only [List.take_length, List.length_append, List.length_cons, List.length_nil]; omega))) ?_ | refine ca (hN _ (by assumption) (by assumption) _ _ (by first | omega | (simp only [List.take_length, List.length_append, List.length_cons, List.length_nil]; omega))) ?_ | fail)
        first | exact ⟨rfl, by show PH t _ = PH t _; simp only [List.take_length, List.append_assoc, List.cons_append, List.nil_append, List.append_nil]⟩ | (show PH t _ = PH t _; simp only [List.take_length, List.append_assoc, List.cons_append, List.nil_append, List.append_nil])
    · rw [List.length_map]; rfl
    · show PH t _ ++ _ = PH t _ ++ _
      simp
  by_cases c2 : q = 2
  · subst c2
    have e0 : itemT t N ⟨2, tx, v, kids, f, e⟩ = fnT t N ⟨2, tx, v, kids, f, e⟩ := by first | rfl | simp [itemT, *]
    rw [e0] at hl ⊢
    try simp only [List.length_append, List.length_cons, List.length_nil] at hl
    repeat' (first | refine run ⟨?_⟩ | refine ca (operand_ev hN _ _ ⟨by assumption, by assumption⟩ (by omega) _ _ (by first | omega | (simp only [List.take_length, List.length_append, List.length_cons, List.length_nil]; omega))) ?_ | refine ca (list_ev hN _ (by assumption) (by omega) _ _ (by first | omega | (simp only [List.take_length, List.length_append, List.length_cons, List.length_nil]; omega))) ?_ | refine ca (perhaps_ev hN _ (by assumption) _ _ (by first | omega | (simp only [List.take_length, List.length_append, List.length_cons, List.length_nil]; omega))) ?_ | refine ca (function_ev hN _ hk hm (hfn rfl) hkl _ _ (by first | omega | (simp only [List.take_length, List.length_append, List.length_cons, List.length_nil]; omega))) ?_ | refine and_t (decide_eq_true (by assumption)) ?_ | refine gt_t (decide_eq_true (by assumption)) ?_ | refine gd_t (decide_eq_true (by assumption)) ?_ | refine and_f (decide_eq_false (by assumption)) ?_ | refine gt_f (decide_eq_false (by assumption)) ?_ | refine gd_f (decide_eq_false (by assumption)) ?_ | refine ca (put1 _ _ _ (by first | omega | (simp only [List.take_length, List.length_append, List.length_cons, List.length_nil]; omega))) ?_ | refine ca (put2 _ _ _ _ (by first | omega | (simp only [List.take_length, List.length_append, List.length_cons, List.length_nil]; omega))) ?_ | refine ca (put3 _ _ _ _ _ (by first | omega | (simp only [List.take_length, List.length_append, List.length_cons, List.length_nil]; omega))) ?_ | refine ca (hN _ (by assumption) (by assumption) _ _ (by first | omega | (simp only [List.take_length, List.length_append, List.length_cons, List.length_nil]; omega))) ?_ | fail)
    first | exact ⟨rfl, by show PH t _ = PH t _; simp only [List.take_length, List.append_assoc, List.cons_append, List.nil_append, List.append_nil]⟩ | (show PH t _ = PH t _; simp only [List.take_length, List.append_assoc, List.cons_append, List.nil_append, List.append_nil])
  by_cases c3 : q = 3
  · subst c3
    have e0 : itemT t N ⟨3, tx, v, kids, f, e⟩ = [[115, 116, 114, 117, 99, 116], tx, [123]] ++ lstT N kids ++ [[125]] := by first | rfl | simp [itemT, *]
    rw [e0] at hl ⊢
    try simp only [List.length_append, List.length_cons, List.length_nil] at hl
    repeat' (first | refine run ⟨?_⟩ | refine ca (operand_ev hN _ _ ⟨by assumption, by assumption⟩ (by omega) _ _ (by first | omega | (simp only [List.take_length, List.length_append, List.length_cons, List.length_nil]; omega))) ?_ | refine ca (list_ev hN _ (by assumption) (by omega) _ _ (by first | omega | (simp only [List.take_length, List.length_append, List.length_cons, List.length_nil]; omega))) ?_ | refine ca (perhaps_ev hN _ (by assumption) _ _ (by first | omega | (simp only [List.take_length, List.length_append, List.length_cons, List.length_nil]; omega))) ?_ | refine ⟨some (.str [115, 116, 114, 117, 99, 116]), rfl, ?_⟩ | refine and_t (decide_eq_true (by assumption)) ?_ | refine gt_t (decide_eq_true (by assumption)) ?_ | refine gd_t (decide_eq_true (by assumption)) ?_ | refine and_f (decide_eq_false (by assumption)) ?_ | refine gt_f (decide_eq_false (by assumption)) ?_ | refine gd_f (decide_eq_false (by assumption)) ?_ | refine ca (put1 _ _ _ (by first | omega | (simp only [List.take_length, List.length_append, List.length_cons, List.length_nil]; omega))) ?_ | refine ca (put2 _ _ _ _ (by first | omega | (simp only [List.take_length, List.length_append, List.length_cons, List.length_nil]; omega))) ?_ | refine ca (put3 _ _ _ _ _ (by first | omega | (simp only [List.take_length, List.length_append, List.length_cons, List.length_nil]; omega))) ?_ | refine ca (hN _ (by assumption) (by assumption) _ _ (by first | omega | (simp only [List.take_length, List.length_append, List.length_cons, List.length_nil]; omega))) ?_ | fail)
    first | exact ⟨rfl, by show PH t _ = PH t _; simp only [List.take_length, List.append_assoc, List.cons_append, List.nil_append, List.append_nil]⟩ | (show PH t _ = PH t _; simp only [List.take_length, List.append_assoc, List.cons_append, List.nil_append, List.append_nil])
  by_cases c4 : q = 4
  · subst c4
    have e0 : itemT t N ⟨4, tx, v, kids, f, e⟩ = [[101, 110, 117, 109], tx, [123]] ++ lstT N kids ++ [[125]] := by first | rfl | simp [itemT, *]
    rw [e0] at hl ⊢
    try simp only [List.length_append, List.length_cons, List.length_nil] at hl
    repeat' (first | refine run ⟨?_⟩ | refine ca (operand_ev hN _ _ ⟨by assumption, by assumption⟩ (by omega) _ _ (by first | omega | (simp only [List.take_length, List.length_append, List.length_cons, List.length_nil]; omega))) ?_ | refine ca (list_ev hN _ (by assumption) (by omega) _ _ (by first | omega | (simp only [List.take_length, List.length_append, List.length_cons, List.length_nil]; omega))) ?_ | refine ca (perhaps_ev hN _ (by assumption) _ _ (by first | omega | (simp only [List.take_length, List.length_append, List.length_cons, List.length_nil]; omega))) ?_ | refine ⟨some (.str [101, 110, 117, 109]), rfl, ?_⟩ | refine and_t (decide_eq_true (by assumption)) ?_ | refine gt_t (decide_eq_true (by assumption)) ?_ | refine gd_t (decide_eq_true (by assumption)) ?_ | refine and_f (decide_eq_false (by assumption)) ?_ | refine gt_f (decide_eq_false (by assumption)) ?_ | refine gd_f (decide_eq_false (by assumption)) ?_ | refine ca (put1 _ _ _ (by first | omega | (simp only [List.take_length, List.length_append, List.length_cons, List.length_nil]; omega))) ?_ | refine ca (put2 _ _ _ _ (by first | omega | (simp only [List.take_length, List.length_append, List.length_cons, List.length_nil]; omega))) ?_ | refine ca (put3 _ _ _ _ _ (by first | omega | (simp only [List.take_length, List.length_append, List.length_cons, List.length_nil]; omega))) ?_ | refine ca (hN _ (by assumption) (by assumption) _ _ (by first | omega | (simp only [List.take_length, List.length_append, List.length_cons, List.length_nil]; omega))) ?_ | fail)
    first | exact ⟨rfl, by show PH t _ = PH t _; simp only [List.take_length, List.append_assoc, List.cons_append, List.nil_append, List.append_nil]⟩ | (show PH t _ = PH t _; simp only [List.take_length, List.append_assoc, List.cons_append, List.nil_append, List.append_nil])
  by_cases c6 : q = 6
  · subst c6
    have e0 : itemT t N ⟨6, tx, v, kids, f, e⟩ = [tx] ++ perT N kids := by first | rfl | simp [itemT, *]
    rw [e0] at hl ⊢
    try simp only [List.length_append, List.length_cons, List.length_nil] at hl
    repeat' (first | refine run ⟨?_⟩ | refine ca (operand_ev hN _ _ ⟨by assumption, by assumption⟩ (by omega) _ _ (by first | omega | (simp only [List.take_length, List.length_append, List.length_cons, List.length_nil]; omega))) ?_ | refine ca (list_ev hN _ (by assumption) (by omega) _ _ (by first | omega | (simp only [List.take_length, List.length_append, List.length_cons, List.length_nil]; omega))) ?_ | refine ca (perhaps_ev hN _ (by assumption) _ _ (by first | omega | (simp only [List.take_length, List.length_append, List.length_cons, List.length_nil]; omega))) ?_ | refine and_t (decide_eq_true (by assumption)) ?_ | refine gt_t (decide_eq_true (by assumption)) ?_ | refine gd_t (decide_eq_true (by assumption)) ?_ | refine and_f (decide_eq_false (by assumption)) ?_ | refine gt_f (decide_eq_false (by assumption)) ?_ | refine gd_f (decide_eq_false (by assumption)) ?_ | refine ca (put1 _ _ _ (by first | omega | (simp only [List.take_length, List.length_append, List.length_cons, List.length_nil]; omega))) ?_ | refine ca (put2 _ _ _ _ (by first | omega | (simp only [List.take_length, List.length_append, List.length_cons, List.length_nil]; omega))) ?_ | refine ca (put3 _ _ _ _ _ (by first | omega | (simp only [List.take_length, List.length_append, List.length_cons, List.length_nil]; omega))) ?_ | refine ca (hN _ (by assumption) (by assumption) _ _ (by first | omega | (simp only [List.take_length, List.length_append, List.length_cons, List.length_nil]; omega))) ?_ | fail)
    first | exact ⟨rfl, by show PH t _ = PH t _; simp only [List.take_length, List.append_assoc, List.cons_append, List.nil_append, List.append_nil]⟩ | (show PH t _ = PH t _; simp only [List.take_length, List.append_assoc, List.cons_append, List.nil_append, List.append_nil])
  by_cases c7 : q = 7
  · subst c7
    obtain ⟨a, rfl⟩ := one_of (hlen.2.1 (by omega))
    obtain ⟨ha, ha'⟩ := hk a (by simp)
    by_cases hv : v = 1
    · subst hv
      have e0 : itemT t N ⟨7, tx, 1, [a], f, e⟩ = [[109, 117, 116]] ++ [tx, [58]] ++ N a := by first | rfl | simp [itemT, *]
      rw [e0] at hl ⊢
      try simp only [List.length_append, List.length_cons, List.length_nil] at hl
      repeat' (first | refine run ⟨?_⟩ | refine ca (operand_ev hN _ _ ⟨by assumption, by assumption⟩ (by omega) _ _ (by first | omega | (simp only [List.take_length, List.length_append, List.length_cons, List.length_nil]; omega))) ?_ | refine ca (list_ev hN _ (by assumption) (by omega) _ _ (by first | omega | (simp only [List.take_length, List.length_append, List.length_cons, List.length_nil]; omega))) ?_ | refine ca (perhaps_ev hN _ (by assumption) _ _ (by first | omega | (simp only [List.take_length, List.length_append, List.length_cons, List.length_nil]; omega))) ?_ | refine and_t (decide_eq_true (by assumption)) ?_ | refine gt_t (decide_eq_true (by assumption)) ?_ | refine gd_t (decide_eq_true (by assumption)) ?_ | refine and_f (decide_eq_false (by assumption)) ?_ | refine gt_f (decide_eq_false (by assumption)) ?_ | refine gd_f (decide_eq_false (by assumption)) ?_ | refine ca (put1 _ _ _ (by first | omega | (simp only [List.take_length, List.length_append, List.length_cons, List.length_nil]; omega))) ?_ | refine ca (put2 _ _ _ _ (by first | omega | (simp only [List.take_length, List.length_append, List.length_cons, List.length_nil]; omega))) ?_ | refine ca (put3 _ _ _ _ _ (by first | omega | (simp only [List.take_length, List.length_append, List.length_cons, List.length_nil]; omega))) ?_ | refine ca (hN _ (by assumption) (by assumption) _ _ (by first | omega | (simp only [List.take_length, List.length_append, List.length_cons, List.length_nil]; omega))) ?_ | fail)
      first | exact ⟨rfl, by show PH t _ = PH t _; simp only [List.take_length, List.append_assoc, List.cons_append, List.nil_append, List.append_nil]⟩ | (show PH t _ = PH t _; simp only [List.take_length, List.append_assoc, List.cons_append, List.nil_append, List.append_nil])
    · skip
      have e0 : itemT t N ⟨7, tx, v, [a], f, e⟩ = [tx, [58]] ++ N a := by first | rfl | simp [itemT, *]
      rw [e0] at hl ⊢
      try simp only [List.length_append, List.length_cons, List.length_nil] at hl
      repeat' (first | refine run ⟨?_⟩ | refine ca (operand_ev hN _ _ ⟨by assumption, by assumption⟩ (by omega) _ _ (by first | omega | (simp only [List.take_length, List.length_append, List.length_cons, List.length_nil]; omega))) ?_ | refine ca (list_ev hN _ (by assumption) (by omega) _ _ (by first | omega | (simp only [List.take_length, List.length_append, List.length_cons, List.length_nil]; omega))) ?_ | refine ca (perhaps_ev hN _ (by assumption) _ _ (by first | omega | (simp only [List.take_length, List.length_append, List.length_cons, List.length_nil]; omega))) ?_ | refine and_t (decide_eq_true (by assumption)) ?_ | refine gt_t (decide_eq_true (by assumption)) ?_ | refine gd_t (decide_eq_true (by assumption)) ?_ | refine and_f (decide_eq_false (by assumption)) ?_ | refine gt_f (decide_eq_false (by assumption)) ?_ | refine gd_f (decide_eq_false (by assumption)) ?_ | refine ca (put1 _ _ _ (by first | omega | (simp only [List.take_length, List.length_append, List.length_cons, List.length_nil]; omega))) ?_ | refine ca (put2 _ _ _ _ (by first | omega | (simp only [List.take_length, List.length_append, List.length_cons, List.length_nil]; omega))) ?_ | refine ca (put3 _ _ _ _ _ (by first | omega | (simp only [List.take_length, List.length_append, List.length_cons, List.length_nil]; omega))) ?_ | refine ca (hN _ (by assumption) (by assumption) _ _ (by first | omega | (simp only [List.take_length, List.length_append, List.length_cons, List.length_nil]; omega))) ?_ | fail)
      first | exact ⟨rfl, by show PH t _ = PH t _; simp only [List.take_length, List.append_assoc, List.cons_append, List.nil_append, List.append_nil]⟩ | (show PH t _ = PH t _; simp only [List.take_length, List.append_assoc, List.cons_append, List.nil_append, List.append_nil])
  by_cases c5 : q = 5
  · subst c5
    obtain ⟨a, rfl⟩ := one_of (hlen.2.1 (by omega))
    obtain ⟨ha, ha'⟩ := hk a (by simp)
    have e0 : itemT t N ⟨5, tx, v, [a], f, e⟩ = [tx, [58]] ++ N a := by first | rfl | simp [itemT, *]
    rw [e0] at hl ⊢
    try simp only [List.length_append, List.length_cons, List.length_nil] at hl
    repeat' (first | refine run ⟨?_⟩ | refine ca (operand_ev hN _ _ ⟨by assumption, by assumption⟩ (by omega) _ _ (by first | omega | (simp only [List.take_length, List.length_append, List.length_cons, List.length_nil]; omega))) ?_ | refine ca (list_ev hN _ (by assumption) (by omega) _ _ (by first | omega | (simp only [List.take_length, List.length_append, List.length_cons, List.length_nil]; omega))) ?_ | refine ca (perhaps_ev hN _ (by assumption) _ _ (by first | omega | (simp only [List.take_length, List.length_append, List.length_cons, List.length_nil]; omega))) ?_ | refine and_t (decide_eq_true (by assumption)) ?_ | refine gt_t (decide_eq_true (by assumption)) ?_ | refine gd_t (decide_eq_true (by assumption)) ?_ | refine and_f (decide_eq_false (by assumption)) ?_ | refine gt_f (decide_eq_false (by assumption)) ?_ | refine gd_f (decide_eq_false (by assumption)) ?_ | refine ca (put1 _ _ _ (by first | omega | (simp only [List.take_length, List.length_append, List.length_cons, List.length_nil]; omega))) ?_ | refine ca (put2 _ _ _ _ (by first | omega | (simp only [List.take_length, List.length_append, List.length_cons, List.length_nil]; omega))) ?_ | refine ca (put3 _ _ _ _ _ (by first | omega | (simp only [List.take_length, List.length_append, List.length_cons, List.length_nil]; omega))) ?_ | refine ca (hN _ (by assumption) (by assumption) _ _ (by first | omega | (simp only [List.take_length, List.length_append, List.length_cons, List.length_nil]; omega))) ?_ | fail)
    first | exact ⟨rfl, by show PH t _ = PH t _; simp only [List.take_length, List.append_assoc, List.cons_append, List.nil_append, List.append_nil]⟩ | (show PH t _ = PH t _; simp only [List.take_length, List.append_assoc, List.cons_append, List.nil_append, List.append_nil])
  omega
end
end Go.Vm.Tre
namespace Go.Vm.Tre
open Go.Vm.Tp
set_option maxRecDepth 10000
set_option linter.unusedSimpArgs false
section
variable {fx : Nat → Option Obj} {t : List Nd} {m : Int} {N : Int → Toks} (hN : NodOk fx t m N)
include hN
set_option maxHeartbeats 1000000 in
theorem stmt_ev (x : Nd) (hk : ∀ k ∈ x.kids, 0 ≤ k ∧ k < m) (hm : m ≤ t.length) (hkn : isSt x.k = true) (hlen : lenOk x.k x.kids.length) (hkl : x.kids.length ≤ 1048576) (l : Toks) (X : Hp) (hl : l.length + (stmtT t N x).length ≤ LIM) : evF (pgL fx) n_tree_printer_stmt [.ptr 1 0, ndV x] (PH t l ++ X) = some (.tup [], PH t (l ++ stmtT t N x) ++ X) := by
  refine evF_ext (mv fx) (h := PH t l) (h' := PH t (l ++ stmtT t N x)) ?_ rfl rfl rfl rfl rfl
  obtain ⟨q, tx, v, kids, f, e⟩ := x
  refine evF_wqOn t_tree_printer_stmt rfl rfl rfl ?_
  simp only [isSt, Bool.and_eq_true, decide_eq_true_eq] at hk hkn hlen hkl hl ⊢
  by_cases c21 : q = 21
  · subst c21
    have e0 : stmtT t N ⟨21, tx, v, kids, f, e⟩ = letT N ⟨21, tx, v, kids, f, e⟩ := by first | rfl | simp [stmtT, *]
    rw [e0] at hl ⊢
    try simp only [List.length_append, List.length_cons, List.length_nil] at hl
    repeat' (first | refine run ⟨?_⟩ | refine ca (operand_ev hN _ _ ⟨by assumption, by assumption⟩ (by omega) _ _ (by first | omega | (simp only [List.take_length, List.length_append, List.length_cons, List.length_nil]; omega))) ?_ | refine ca (list_ev hN _ (by assumption) (by omega) _ _ (by first | omega | (simp only [List.take_length, List.length_append, List.length_cons, List.length_nil]; omega))) ?_ | refine ca (perhaps_ev hN _ (by assumption) _ _ (by first | omega | (simp only [List.take_length, List.length_append, List.length_cons, List.length_nil]; omega))) ?_ | refine ca (let_ev hN _ hk (hlen.2.2.2.1 rfl) _ _ (by first | omega | (simp only [List.take_length, List.length_append, List.length_cons, List.length_nil]; omega))) ?_ | refine and_t (decide_eq_true (by assumption)) ?_ | refine gt_t (decide_eq_true (by assumption)) ?_ | refine gd_t (decide_eq_true (by assumption)) ?_ | refine and_f (decide_eq_false (by assumption)) ?_ | refine gt_f (decide_eq_false (by assumption)) ?_ | refine gd_f (decide_eq_false (by assumption)) ?_ | refine ca (put1 _ _ _ (by first | omega | (simp only [List.take_length, List.length_append, List.length_cons, List.length_nil]; omega))) ?_ | refine ca (put2 _ _ _ _ (by first | omega | (simp only [List.take_length, List.length_append, List.length_cons, List.length_nil]; omega))) ?_ | refine ca (put3 _ _ _ _ _ (by first | omega | (simp only [List.take_length, List.length_append, List.length_cons, List.length_nil]; omega))) ?_ | refine ca (hN _ (by assumption) (by assumption) _ _ (by first | omega | (simp only [List.take_length, List.length_append, List.length_cons, List.length_nil]; omega))) ?_ | fail)
    first | exact ⟨rfl, by show PH t _ = PH t _; simp only [List.take_length, List.append_assoc, List.cons_append, List.nil_append, List.append_nil]⟩ | (show PH t _ = PH t _; simp only [List.take_length, List.append_assoc, List.cons_append, List.nil_append, List.append_nil])
  by_cases c22 : q = 22
  · subst c22
    obtain ⟨a, rfl⟩ := one_of (hlen.2.1 (by omega))
    obtain ⟨ha, ha'⟩ := hk a (by simp)
    have e0 : stmtT t N ⟨22, tx, v, [a], f, e⟩ = N a ++ [[59]] := by first | rfl | simp [stmtT, *]
    rw [e0] at hl ⊢
    try simp only [List.length_append, List.length_cons, List.length_nil] at hl
    repeat' (first | refine run ⟨?_⟩ | refine ca (operand_ev hN _ _ ⟨by assumption, by assumption⟩ (by omega) _ _ (by first | omega | (simp only [List.take_length, List.length_append, List.length_cons, List.length_nil]; omega))) ?_ | refine ca (list_ev hN _ (by assumption) (by omega) _ _ (by first | omega | (simp only [List.take_length, List.length_append, List.length_cons, List.length_nil]; omega))) ?_ | refine ca (perhaps_ev hN _ (by assumption) _ _ (by first | omega | (simp only [List.take_length, List.length_append, List.length_cons, List.length_nil]; omega))) ?_ | refine and_t (decide_eq_true (by assumption)) ?_ | refine gt_t (decide_eq_true (by assumption)) ?_ | refine gd_t (decide_eq_true (by assumption)) ?_ | refine and_f (decide_eq_false (by assumption)) ?_ | refine gt_f (decide_eq_false (by assumption)) ?_ | refine gd_f (decide_eq_false (by assumption)) ?_ | refine ca (put1 _ _ _ (by first | omega | (simp only [List.take_length, List.length_append, List.length_cons, List.length_nil]; omega))) ?_ | refine ca (put2 _ _ _ _ (by first | omega | (simp only [List.take_length, List.length_append, List.length_cons, List.length_nil]; omega))) ?_ | refine ca (put3 _ _ _ _ _ (by first | omega | (simp only [List.take_length, List.length_append, List.length_cons, List.length_nil]; omega))) ?_ | refine ca (hN _ (by assumption) (by assumption) _ _ (by first | omega | (simp only [List.take_length, List.length_append, List.length_cons, List.length_nil]; omega))) ?_ | fail)
    first | exact ⟨rfl, by show PH t _ = PH t _; simp only [List.take_length, List.append_assoc, List.cons_append, List.nil_append, List.append_nil]⟩ | (show PH t _ = PH t _; simp only [List.take_length, List.append_assoc, List.cons_append, List.nil_append, List.append_nil])
  by_cases c23 : q = 23
  · subst c23
    obtain ⟨a, b, rfl⟩ := two_of (hlen.2.2.2.2.1 (by omega))
    obtain ⟨ha, ha'⟩ := hk a (by simp)
    obtain ⟨hb, hb'⟩ := hk b (by simp)
    have e0 : stmtT t N ⟨23, tx, v, [a, b], f, e⟩ = opdT t N a false ++ [[61]] ++ opdT t N b false ++ [[59]] := by first | rfl | simp [stmtT, *]
    rw [e0] at hl ⊢
    try simp only [List.length_append, List.length_cons, List.length_nil] at hl
    repeat' (first | refine run ⟨?_⟩ | refine ca (operand_ev hN _ _ ⟨by assumption, by assumption⟩ (by omega) _ _ (by first | omega | (simp only [List.take_length, List.length_append, List.length_cons, List.length_nil]; omega))) ?_ | refine ca (list_ev hN _ (by assumption) (by omega) _ _ (by first | omega | (simp only [List.take_length, List.length_append, List.length_cons, List.length_nil]; omega))) ?_ | refine ca (perhaps_ev hN _ (by assumption) _ _ (by first | omega | (simp only [List.take_length, List.length_append, List.length_cons, List.length_nil]; omega))) ?_ | refine and_t (decide_eq_true (by assumption)) ?_ | refine gt_t (decide_eq_true (by assumption)) ?_ | refine gd_t (decide_eq_true (by assumption)) ?_ | refine and_f (decide_eq_false (by assumption)) ?_ | refine gt_f (decide_eq_false (by assumption)) ?_ | refine gd_f (decide_eq_false (by assumption)) ?_ | refine ca (put1 _ _ _ (by first | omega | (simp only [List.take_length, List.length_append, List.length_cons, List.length_nil]; omega))) ?_ | refine ca (put2 _ _ _ _ (by first | omega | (simp only [List.take_length, List.length_append, List.length_cons, List.length_nil]; omega))) ?_ | refine ca (put3 _ _ _ _ _ (by first | omega | (simp only [List.take_length, List.length_append, List.length_cons, List.length_nil]; omega))) ?_ | refine ca (hN _ (by assumption) (by assumption) _ _ (by first | omega | (simp only [List.take_length, List.length_append, List.length_cons, List.length_nil]; omega))) ?_ | fail)
    first | exact ⟨rfl, by show PH t _ = PH t _; simp only [List.take_length, List.append_assoc, List.cons_append, List.nil_append, List.append_nil]⟩ | (show PH t _ = PH t _; simp only [List.take_length, List.append_assoc, List.cons_append, List.nil_append, List.append_nil])
  by_cases c24 : q = 24
  · subst c24
    obtain ⟨a, b, rfl⟩ := two_of (hlen.2.2.2.2.1 (by omega))
    obtain ⟨ha, ha'⟩ := hk a (by simp)
    obtain ⟨hb, hb'⟩ := hk b (by simp)
    have e0 : stmtT t N ⟨24, tx, v, [a, b], f, e⟩ = [[119, 104, 105, 108, 101]] ++ opdT t N a false ++ N b := by first | rfl | simp [stmtT, *]
    rw [e0] at hl ⊢
    try simp only [List.length_append, List.length_cons, List.length_nil] at hl
    repeat' (first | refine run ⟨?_⟩ | refine ca (operand_ev hN _ _ ⟨by assumption, by assumption⟩ (by omega) _ _ (by first | omega | (simp only [List.take_length, List.length_append, List.length_cons, List.length_nil]; omega))) ?_ | refine ca (list_ev hN _ (by assumption) (by omega) _ _ (by first | omega | (simp only [List.take_length, List.length_append, List.length_cons, List.length_nil]; omega))) ?_ | refine ca (perhaps_ev hN _ (by assumption) _ _ (by first | omega | (simp only [List.take_length, List.length_append, List.length_cons, List.length_nil]; omega))) ?_ | refine and_t (decide_eq_true (by assumption)) ?_ | refine gt_t (decide_eq_true (by assumption)) ?_ | refine gd_t (decide_eq_true (by assumption)) ?_ | refine and_f (decide_eq_false (by assumption)) ?_ | refine gt_f (decide_eq_false (by assumption)) ?_ | refine gd_f (decide_eq_false (by assumption)) ?_ | refine ca (put1 _ _ _ (by first | omega | (simp only [List.take_length, List.length_append, List.length_cons, List.length_nil]; omega))) ?_ | refine ca (put2 _ _ _ _ (by first | omega | (simp only [List.take_length, List.length_append, List.length_cons, List.length_nil]; omega))) ?_ | refine ca (put3 _ _ _ _ _ (by first | omega | (simp only [List.take_length, List.length_append, List.length_cons, List.length_nil]; omega))) ?_ | refine ca (hN _ (by assumption) (by assumption) _ _ (by first | omega | (simp only [List.take_length, List.length_append, List.length_cons, List.length_nil]; omega))) ?_ | fail)
    first | exact ⟨rfl, by show PH t _ = PH t _; simp only [List.take_length, List.append_assoc, List.cons_append, List.nil_append, List.append_nil]⟩ | (show PH t _ = PH t _; simp only [List.take_length, List.append_assoc, List.cons_append, List.nil_append, List.append_nil])
  by_cases c25 : q = 25
  · subst c25
    have e0 : stmtT t N ⟨25, tx, v, kids, f, e⟩ = [[114, 101, 116, 117, 114, 110]] ++ kids.flatMap N ++ [[59]] := rfl
    rw [e0] at hl ⊢
    simp only [List.length_append, List.length_cons, List.length_nil] at hl
    repeat' (first | refine run ⟨?_⟩ | refine ca (put1 _ _ _ (by first | omega | (simp only [List.take_length, List.length_append, List.length_cons, List.length_nil]; omega))) ?_ | refine ca (put2 _ _ _ _ (by first | omega | (simp only [List.take_length, List.length_append, List.length_cons, List.length_nil]; omega))) ?_ | refine ca (put3 _ _ _ _ _ (by first | omega | (simp only [List.take_length, List.length_append, List.length_cons, List.length_nil]; omega))) ?_ | refine ca (hN _ (by assumption) (by assumption) _ _ (by first | omega | (simp only [List.take_length, List.length_append, List.length_cons, List.length_nil]; omega))) ?_ | fail)
    show LoopK _ _ _ _ _ _ _
    refine wq_loop (α := Nat) (fun j => kids.length - j) (fun j => [(0, .ptr 1 0), (67, ints kids), (68, i64 kids.length), (69, i64 j)]) (fun j => PH t (l ++ [[114, 101, 116, 117, 114, 110]] ++ (kids.take j).flatMap N) ++ [.box [i64 25, str tx, i64 v, ints kids, i64 f, i64 e]]) (fun j => j ≤ kids.length) ?_ 0 (by omega) ?_ ?_
    · intro j hj
      repeat' (first | refine run ⟨?_⟩ | refine ca (put1 _ _ _ (by first | omega | (simp only [List.take_length, List.length_append, List.length_cons, List.length_nil]; omega))) ?_ | refine ca (put2 _ _ _ _ (by first | omega | (simp only [List.take_length, List.length_append, List.length_cons, List.length_nil]; omega))) ?_ | refine ca (put3 _ _ _ _ _ (by first | omega | (simp only [List.take_length, List.length_append, List.length_cons, List.length_nil]; omega))) ?_ | refine ca (hN _ (by assumption) (by assumption) _ _ (by first | omega | (simp only [List.take_length, List.length_append, List.length_cons, List.length_nil]; omega))) ?_ | fail)
      refine And.intro (fun h => ?_) (fun h => ?_)
      · replace h := of_decide_eq_true h
        have hlt : j < kids.length := by omega
        have hkj := hk _ (List.getElem_mem hlt)
        have e : kids.getD j 0 = kids[j] := by simp [hlt]
        have hm := flat_mono N kids (j + 1)
        have ht := flat_take N kids j hlt
        rw [ht] at hm
        simp only [List.length_append] at hm
        repeat' (first | refine run ⟨?_⟩ | refine ca (put1 _ _ _ (by first | omega | (simp only [List.take_length, List.length_append, List.length_cons, List.length_nil]; omega))) ?_ | refine ca (put2 _ _ _ _ (by first | omega | (simp only [List.take_length, List.length_append, List.length_cons, List.length_nil]; omega))) ?_ | refine ca (put3 _ _ _ _ _ (by first | omega | (simp only [List.take_length, List.length_append, List.length_cons, List.length_nil]; omega))) ?_ | refine ca (hN _ (by assumption) (by assumption) _ _ (by first | omega | (simp only [List.take_length, List.length_append, List.length_cons, List.length_nil]; omega))) ?_ | fail)
        refine pickD (d := .int .i64 (kids.getD j 0)) ⟨by omega, getK hlt⟩ ?_
        refine And.intro rfl ?_
        have hk0 : 0 ≤ kids.getD j 0 := by rw [e]; exact hkj.1
        have hk1 : kids.getD j 0 < m := by rw [e]; exact hkj.2
        repeat' (first | refine run ⟨?_⟩ | refine ca (put1 _ _ _ (by first | omega | (simp only [List.take_length, List.length_append, List.length_cons, List.length_nil]; omega))) ?_ | refine ca (put2 _ _ _ _ (by first | omega | (simp only [List.take_length, List.length_append, List.length_cons, List.length_nil]; omega))) ?_ | refine ca (put3 _ _ _ _ _ (by first | omega | (simp only [List.take_length, List.length_append, List.length_cons, List.length_nil]; omega))) ?_ | refine ca (hN _ (by assumption) (by assumption) _ _ (by first | omega | (simp only [List.take_length, List.length_append, List.length_cons, List.length_nil]; omega))) ?_ | fail)
        refine ⟨j + 1, by omega, by omega, ?_, ?_⟩
        · rw [i64w (by omega)]; rfl
        · show PH t _ ++ _ = PH t _ ++ _
          rw [ht]; simp only [List.append_assoc]
      · replace h := of_decide_eq_false h
        have hj' : j = kids.length := by omega
        subst hj'
        repeat' (first | refine run ⟨?_⟩ | refine ca (put1 _ _ _ (by first | omega | (simp only [List.take_length, List.length_append, List.length_cons, List.length_nil]; omega))) ?_ | refine ca (put2 _ _ _ _ (by first | omega | (simp only [List.take_length, List.length_append, List.length_cons, List.length_nil]; omega))) ?_ | refine ca (put3 _ _ _ _ _ (by first | omega | (simp only [List.take_length, List.length_append, List.length_cons, List.length_nil]; omega))) ?_ | refine ca (hN _ (by assumption) (by assumption) _ _ (by first | omega | (simp only [List.take_length, List.length_append, List.length_cons, List.length_nil]; omega))) ?_ | fail)
        first | exact ⟨rfl, by show PH t _ = PH t _; simp only [List.take_length, List.append_assoc, List.cons_append, List.nil_append, List.append_nil]⟩ | (show PH t _ = PH t _; simp only [List.take_length, List.append_assoc, List.cons_append, List.nil_append, List.append_nil])
    · rw [List.length_map]; rfl
    · show PH t _ ++ _ = PH t _ ++ _
      simp
  by_cases c26 : q = 26
  · subst c26
    have e0 : stmtT t N ⟨26, tx, v, kids, f, e⟩ = [[98, 114, 101, 97, 107], [59]] := by first | rfl | simp [stmtT, *]
    rw [e0] at hl ⊢
    try simp only [List.length_append, List.length_cons, List.length_nil] at hl
    repeat' (first | refine run ⟨?_⟩ | refine ca (operand_ev hN _ _ ⟨by assumption, by assumption⟩ (by omega) _ _ (by first | omega | (simp only [List.take_length, List.length_append, List.length_cons, List.length_nil]; omega))) ?_ | refine ca (list_ev hN _ (by assumption) (by omega) _ _ (by first | omega | (simp only [List.take_length, List.length_append, List.length_cons, List.length_nil]; omega))) ?_ | refine ca (perhaps_ev hN _ (by assumption) _ _ (by first | omega | (simp only [List.take_length, List.length_append, List.length_cons, List.length_nil]; omega))) ?_ | refine and_t (decide_eq_true (by assumption)) ?_ | refine gt_t (decide_eq_true (by assumption)) ?_ | refine gd_t (decide_eq_true (by assumption)) ?_ | refine and_f (decide_eq_false (by assumption)) ?_ | refine gt_f (decide_eq_false (by assumption)) ?_ | refine gd_f (decide_eq_false (by assumption)) ?_ | refine ca (put1 _ _ _ (by first | omega | (simp only [List.take_length, List.length_append, List.length_cons, List.length_nil]; omega))) ?_ | refine ca (put2 _ _ _ _ (by first | omega | (simp only [List.take_length, List.length_append, List.length_cons, List.length_nil]; omega))) ?_ | refine ca (put3 _ _ _ _ _ (by first | omega | (simp only [List.take_length, List.length_append, List.length_cons, List.length_nil]; omega))) ?_ | refine ca (hN _ (by assumption) (by assumption) _ _ (by first | omega | (simp only [List.take_length, List.length_append, List.length_cons, List.length_nil]; omega))) ?_ | fail)
    first | exact ⟨rfl, by show PH t _ = PH t _; simp only [List.take_length, List.append_assoc, List.cons_append, List.nil_append, List.append_nil]⟩ | (show PH t _ = PH t _; simp only [List.take_length, List.append_assoc, List.cons_append, List.nil_append, List.append_nil])
  by_cases c27 : q = 27
  · subst c27
    have e0 : stmtT t N ⟨27, tx, v, kids, f, e⟩ = [[99, 111, 110, 116, 105, 110, 117, 101], [59]] := by first | rfl | simp [stmtT, *]
    rw [e0] at hl ⊢
    try simp only [List.length_append, List.length_cons, List.length_nil] at hl
    repeat' (first | refine run ⟨?_⟩ | refine ca (operand_ev hN _ _ ⟨by assumption, by assumption⟩ (by omega) _ _ (by first | omega | (simp only [List.take_length, List.length_append, List.length_cons, List.length_nil]; omega))) ?_ | refine ca (list_ev hN _ (by assumption) (by omega) _ _ (by first | omega | (simp only [List.take_length, List.length_append, List.length_cons, List.length_nil]; omega))) ?_ | refine ca (perhaps_ev hN _ (by assumption) _ _ (by first | omega | (simp only [List.take_length, List.length_append, List.length_cons, List.length_nil]; omega))) ?_ | refine and_t (decide_eq_true (by assumption)) ?_ | refine gt_t (decide_eq_true (by assumption)) ?_ | refine gd_t (decide_eq_true (by assumption)) ?_ | refine and_f (decide_eq_false (by assumption)) ?_ | refine gt_f (decide_eq_false (by assumption)) ?_ | refine gd_f (decide_eq_false (by assumption)) ?_ | refine ca (put1 _ _ _ (by first | omega | (simp only [List.take_length, List.length_append, List.length_cons, List.length_nil]; omega))) ?_ | refine ca (put2 _ _ _ _ (by first | omega | (simp only [List.take_length, List.length_append, List.length_cons, List.length_nil]; omega))) ?_ | refine ca (put3 _ _ _ _ _ (by first | omega | (simp only [List.take_length, List.length_append, List.length_cons, List.length_nil]; omega))) ?_ | refine ca (hN _ (by assumption) (by assumption) _ _ (by first | omega | (simp only [List.take_length, List.length_append, List.length_cons, List.length_nil]; omega))) ?_ | fail)
    first | exact ⟨rfl, by show PH t _ = PH t _; simp only [List.take_length, List.append_assoc, List.cons_append, List.nil_append, List.append_nil]⟩ | (show PH t _ = PH t _; simp only [List.take_length, List.append_assoc, List.cons_append, List.nil_append, List.append_nil])
  omega
end
end Go.Vm.Tre
