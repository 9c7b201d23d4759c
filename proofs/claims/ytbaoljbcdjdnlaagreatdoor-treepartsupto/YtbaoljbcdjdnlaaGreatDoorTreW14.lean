import Derived.Test.YtbaoljbcdjdnlaaGreatDoorTreW13
set_option linter.unusedSimpArgs false
set_option linter.unusedVariables false
namespace Go.Vm.Tre
open Go.Vm.Tp
set_option maxRecDepth 10000
set_option linter.unusedSimpArgs false
theorem fb_ev {fx : Nat → Option Obj} (H : Hp) (b : Bool) : evF (pgL fx) n_internal_strconv_FormatBool [boo b] H = some (str (if b = true then [116, 114, 117, 101] else [102, 97, 108, 115, 101]), H) := by
  refine evF_wp t_internal_strconv_FormatBool rfl rfl ?_ H
  cases b
  · exact And.intro (fun h => nomatch h) (fun _ => rfl)
  · exact And.intro (fun _ => rfl) (fun h => nomatch h)
theorem fmtb_ev {fx : Nat → Option Obj} (H : Hp) (b : Bool) : evF (pgL fx) n_strconv_FormatBool [boo b] H = some (str (if b = true then [116, 114, 117, 101] else [102, 97, 108, 115, 101]), H) := by
  refine evF_wp t_strconv_FormatBool rfl rfl ?_ H
  refine ca (fb_ev _ b) ?_
  exact rfl
theorem fmt_ev {fx : Nat → Option Obj} (H : Hp) (n : Int) (h : I64 n) : evF (pgL fx) n_primFmt [i64 n, i64 10] H = some (str (Lib.itoa n), H) := by
  rw [evF_prim t_primFmt]
  exact if_pos ⟨h, rfl⟩
section
variable {fx : Nat → Option Obj} {t : List Nd} {m : Int} {N : Int → Toks} (hN : NodOk fx t m N)
include hN
set_option maxHeartbeats 1000000 in
theorem expr_ev (x : Nd) (hk : ∀ k ∈ x.kids, 0 ≤ k ∧ k < m) (hm : m ≤ t.length) (hkn : (38 ≤ x.k ∧ x.k ≤ 43) ∨ x.k = 45 ∨ x.k = 46) (hlen : lenOk x.k x.kids.length) (hkl : x.kids.length ≤ 1048576) (l : Toks) (X : Hp) (hl : l.length + (exprT t N x).length ≤ LIM) : evF (pgL fx) n_tree_printer_expr [.ptr 1 0, ndV x] (PH t l ++ X) = some (.tup [], PH t (l ++ exprT t N x) ++ X) := by
  refine evF_ext (mv fx) (h := PH t l) (h' := PH t (l ++ exprT t N x)) ?_ rfl rfl rfl rfl rfl
  obtain ⟨q, tx, v, kids, f, e⟩ := x
  refine evF_wqOn t_tree_printer_expr rfl rfl rfl ?_
  simp only at hk hkn hlen hkl hl ⊢
  by_cases c38 : q = 38
  · subst c38
    obtain ⟨a, b, rfl⟩ := two_of (hlen.2.2.2.2.1 (by omega))
    obtain ⟨ha, ha'⟩ := hk a (by simp)
    obtain ⟨hb, hb'⟩ := hk b (by simp)
    have e0 : exprT t N ⟨38, tx, v, [a, b], f, e⟩ = opdT t N a false ++ [tx] ++ opdT t N b false := by first | rfl | simp [exprT, *]
    rw [e0] at hl ⊢
    try simp only [List.length_append, List.length_cons, List.length_nil] at hl
    repeat' (first | refine run ⟨?_⟩ | refine ca (operand_ev hN _ _ ⟨by assumption, by assumption⟩ (by omega) _ _ (by first | omega | (simp only [List.take_length, List.length_append, List.length_cons, List.length_nil]; omega))) ?_ | refine ca (list_ev hN _ (by assumption) (by omega) _ _ (by first | omega | (simp only [List.take_length, List.length_append, List.length_cons, List.length_nil]; omega))) ?_ | refine ca (perhaps_ev hN _ (by assumption) _ _ (by first | omega | (simp only [List.take_length, List.length_append, List.length_cons, List.length_nil]; omega))) ?_ | refine and_t (decide_eq_true (by assumption)) ?_ | refine gt_t (decide_eq_true (by assumption)) ?_ | refine gd_t (decide_eq_true (by assumption)) ?_ | refine and_f (decide_eq_false (by assumption)) ?_ | refine gt_f (decide_eq_false (by assumption)) ?_ | refine gd_f (decide_eq_false (by assumption)) ?_ | refine ca (put1 _ _ _ (by first | omega | (simp only [List.take_length, List.length_append, List.length_cons, List.length_nil]; omega))) ?_ | refine ca (put2 _ _ _ _ (by first | omega | (simp only [List.take_length, List.length_append, List.length_cons, List.length_nil]; omega))) ?_ | refine ca (put3 _ _ _ _ _ (by first | omega | (simp only [List.take_length, List.length_append, List.length_cons, List.length_nil]; omega))) ?_ | refine ca (hN _ (by assumption) (by assumption) _ _ (by first | omega | (simp only [List.take_length, List.length_append, List.length_cons, List.length_nil]; omega))) ?_ | fail)
    first | exact ⟨rfl, by show PH t _ = PH t _; simp only [List.take_length, List.append_assoc, List.cons_append, List.nil_append, List.append_nil]⟩ | (show PH t _ = PH t _; simp only [List.take_length, List.append_assoc, List.cons_append, List.nil_append, List.append_nil])
  by_cases c39 : q = 39
  · subst c39
    obtain ⟨a, rfl⟩ := one_of (hlen.2.1 (by omega))
    obtain ⟨ha, ha'⟩ := hk a (by simp)
    have e0 : exprT t N ⟨39, tx, v, [a], f, e⟩ = [[45]] ++ opdT t N a false := by first | rfl | simp [exprT, *]
    rw [e0] at hl ⊢
    try simp only [List.length_append, List.length_cons, List.length_nil] at hl
    repeat' (first | refine run ⟨?_⟩ | refine ca (operand_ev hN _ _ ⟨by assumption, by assumption⟩ (by omega) _ _ (by first | omega | (simp only [List.take_length, List.length_append, List.length_cons, List.length_nil]; omega))) ?_ | refine ca (list_ev hN _ (by assumption) (by omega) _ _ (by first | omega | (simp only [List.take_length, List.length_append, List.length_cons, List.length_nil]; omega))) ?_ | refine ca (perhaps_ev hN _ (by assumption) _ _ (by first | omega | (simp only [List.take_length, List.length_append, List.length_cons, List.length_nil]; omega))) ?_ | refine ca (ahead_ev hN _ _ _ _ _ _ [[45]] (by assumption) (by assumption) hm _ _ (by first | omega | (simp only [List.take_length, List.length_append, List.length_cons, List.length_nil]; omega))) ?_ | refine and_t (decide_eq_true (by assumption)) ?_ | refine gt_t (decide_eq_true (by assumption)) ?_ | refine gd_t (decide_eq_true (by assumption)) ?_ | refine and_f (decide_eq_false (by assumption)) ?_ | refine gt_f (decide_eq_false (by assumption)) ?_ | refine gd_f (decide_eq_false (by assumption)) ?_ | refine ca (put1 _ _ _ (by first | omega | (simp only [List.take_length, List.length_append, List.length_cons, List.length_nil]; omega))) ?_ | refine ca (put2 _ _ _ _ (by first | omega | (simp only [List.take_length, List.length_append, List.length_cons, List.length_nil]; omega))) ?_ | refine ca (put3 _ _ _ _ _ (by first | omega | (simp only [List.take_length, List.length_append, List.length_cons, List.length_nil]; omega))) ?_ | refine ca (hN _ (by assumption) (by assumption) _ _ (by first | omega | (simp only [List.take_length, List.length_append, List.length_cons, List.length_nil]; omega))) ?_ | fail)
    first | exact ⟨rfl, by show PH t _ = PH t _; simp only [List.take_length, List.append_assoc, List.cons_append, List.nil_append, List.append_nil]⟩ | (show PH t _ = PH t _; simp only [List.take_length, List.append_assoc, List.cons_append, List.nil_append, List.append_nil])
  by_cases c40 : q = 40
  · subst c40
    obtain ⟨a, rfl⟩ := one_of (hlen.2.1 (by omega))
    obtain ⟨ha, ha'⟩ := hk a (by simp)
    have e0 : exprT t N ⟨40, tx, v, [a], f, e⟩ = [[33]] ++ opdT t N a false := by first | rfl | simp [exprT, *]
    rw [e0] at hl ⊢
    try simp only [List.length_append, List.length_cons, List.length_nil] at hl
    repeat' (first | refine run ⟨?_⟩ | refine ca (operand_ev hN _ _ ⟨by assumption, by assumption⟩ (by omega) _ _ (by first | omega | (simp only [List.take_length, List.length_append, List.length_cons, List.length_nil]; omega))) ?_ | refine ca (list_ev hN _ (by assumption) (by omega) _ _ (by first | omega | (simp only [List.take_length, List.length_append, List.length_cons, List.length_nil]; omega))) ?_ | refine ca (perhaps_ev hN _ (by assumption) _ _ (by first | omega | (simp only [List.take_length, List.length_append, List.length_cons, List.length_nil]; omega))) ?_ | refine ca (ahead_ev hN _ _ _ _ _ _ [[33]] (by assumption) (by assumption) hm _ _ (by first | omega | (simp only [List.take_length, List.length_append, List.length_cons, List.length_nil]; omega))) ?_ | refine and_t (decide_eq_true (by assumption)) ?_ | refine gt_t (decide_eq_true (by assumption)) ?_ | refine gd_t (decide_eq_true (by assumption)) ?_ | refine and_f (decide_eq_false (by assumption)) ?_ | refine gt_f (decide_eq_false (by assumption)) ?_ | refine gd_f (decide_eq_false (by assumption)) ?_ | refine ca (put1 _ _ _ (by first | omega | (simp only [List.take_length, List.length_append, List.length_cons, List.length_nil]; omega))) ?_ | refine ca (put2 _ _ _ _ (by first | omega | (simp only [List.take_length, List.length_append, List.length_cons, List.length_nil]; omega))) ?_ | refine ca (put3 _ _ _ _ _ (by first | omega | (simp only [List.take_length, List.length_append, List.length_cons, List.length_nil]; omega))) ?_ | refine ca (hN _ (by assumption) (by assumption) _ _ (by first | omega | (simp only [List.take_length, List.length_append, List.length_cons, List.length_nil]; omega))) ?_ | fail)
    first | exact ⟨rfl, by show PH t _ = PH t _; simp only [List.take_length, List.append_assoc, List.cons_append, List.nil_append, List.append_nil]⟩ | (show PH t _ = PH t _; simp only [List.take_length, List.append_assoc, List.cons_append, List.nil_append, List.append_nil])
  by_cases c42 : q = 42
  · subst c42
    obtain ⟨a, rfl⟩ := one_of (hlen.2.1 (by omega))
    obtain ⟨ha, ha'⟩ := hk a (by simp)
    have e0 : exprT t N ⟨42, tx, v, [a], f, e⟩ = [[42]] ++ opdT t N a false := by first | rfl | simp [exprT, *]
    rw [e0] at hl ⊢
    try simp only [List.length_append, List.length_cons, List.length_nil] at hl
    repeat' (first | refine run ⟨?_⟩ | refine ca (operand_ev hN _ _ ⟨by assumption, by assumption⟩ (by omega) _ _ (by first | omega | (simp only [List.take_length, List.length_append, List.length_cons, List.length_nil]; omega))) ?_ | refine ca (list_ev hN _ (by assumption) (by omega) _ _ (by first | omega | (simp only [List.take_length, List.length_append, List.length_cons, List.length_nil]; omega))) ?_ | refine ca (perhaps_ev hN _ (by assumption) _ _ (by first | omega | (simp only [List.take_length, List.length_append, List.length_cons, List.length_nil]; omega))) ?_ | refine ca (ahead_ev hN _ _ _ _ _ _ [[42]] (by assumption) (by assumption) hm _ _ (by first | omega | (simp only [List.take_length, List.length_append, List.length_cons, List.length_nil]; omega))) ?_ | refine and_t (decide_eq_true (by assumption)) ?_ | refine gt_t (decide_eq_true (by assumption)) ?_ | refine gd_t (decide_eq_true (by assumption)) ?_ | refine and_f (decide_eq_false (by assumption)) ?_ | refine gt_f (decide_eq_false (by assumption)) ?_ | refine gd_f (decide_eq_false (by assumption)) ?_ | refine ca (put1 _ _ _ (by first | omega | (simp only [List.take_length, List.length_append, List.length_cons, List.length_nil]; omega))) ?_ | refine ca (put2 _ _ _ _ (by first | omega | (simp only [List.take_length, List.length_append, List.length_cons, List.length_nil]; omega))) ?_ | refine ca (put3 _ _ _ _ _ (by first | omega | (simp only [List.take_length, List.length_append, List.length_cons, List.length_nil]; omega))) ?_ | refine ca (hN _ (by assumption) (by assumption) _ _ (by first | omega | (simp only [List.take_length, List.length_append, List.length_cons, List.length_nil]; omega))) ?_ | fail)
    first | exact ⟨rfl, by show PH t _ = PH t _; simp only [List.take_length, List.append_assoc, List.cons_append, List.nil_append, List.append_nil]⟩ | (show PH t _ = PH t _; simp only [List.take_length, List.append_assoc, List.cons_append, List.nil_append, List.append_nil])
  by_cases c43 : q = 43
  · subst c43
    obtain ⟨a, rfl⟩ := one_of (hlen.2.1 (by omega))
    obtain ⟨ha, ha'⟩ := hk a (by simp)
    by_cases hv : v = 1
    · subst hv
      have e0 : exprT t N ⟨43, tx, 1, [a], f, e⟩ = [[38], [109, 117, 116]] ++ opdT t N a false := by first | rfl | simp [exprT, *]
      rw [e0] at hl ⊢
      try simp only [List.length_append, List.length_cons, List.length_nil] at hl
      repeat' (first | refine run ⟨?_⟩ | refine ca (operand_ev hN _ _ ⟨by assumption, by assumption⟩ (by omega) _ _ (by first | omega | (simp only [List.take_length, List.length_append, List.length_cons, List.length_nil]; omega))) ?_ | refine ca (list_ev hN _ (by assumption) (by omega) _ _ (by first | omega | (simp only [List.take_length, List.length_append, List.length_cons, List.length_nil]; omega))) ?_ | refine ca (perhaps_ev hN _ (by assumption) _ _ (by first | omega | (simp only [List.take_length, List.length_append, List.length_cons, List.length_nil]; omega))) ?_ | refine ca (ahead_ev hN _ _ _ _ _ _ [[38], [109, 117, 116]] (by assumption) (by assumption) hm _ _ (by first | omega | (simp only [List.take_length, List.length_append, List.length_cons, List.length_nil]; omega))) ?_ | refine and_t (decide_eq_true (by assumption)) ?_ | refine gt_t (decide_eq_true (by assumption)) ?_ | refine gd_t (decide_eq_true (by assumption)) ?_ | refine and_f (decide_eq_false (by assumption)) ?_ | refine gt_f (decide_eq_false (by assumption)) ?_ | refine gd_f (decide_eq_false (by assumption)) ?_ | refine ca (put1 _ _ _ (by first | omega | (simp only [List.take_length, List.length_append, List.length_cons, List.length_nil]; omega))) ?_ | refine ca (put2 _ _ _ _ (by first | omega | (simp only [List.take_length, List.length_append, List.length_cons, List.length_nil]; omega))) ?_ | refine ca (put3 _ _ _ _ _ (by first | omega | (simp only [List.take_length, List.length_append, List.length_cons, List.length_nil]; omega))) ?_ | refine ca (hN _ (by assumption) (by assumption) _ _ (by first | omega | (simp only [List.take_length, List.length_append, List.length_cons, List.length_nil]; omega))) ?_ | fail)
      first | exact ⟨rfl, by show PH t _ = PH t _; simp only [List.take_length, List.append_assoc, List.cons_append, List.nil_append, List.append_nil]⟩ | (show PH t _ = PH t _; simp only [List.take_length, List.append_assoc, List.cons_append, List.nil_append, List.append_nil])
    · skip
      have e0 : exprT t N ⟨43, tx, v, [a], f, e⟩ = [[38]] ++ opdT t N a false := by first | rfl | simp [exprT, *]
      rw [e0] at hl ⊢
      try simp only [List.length_append, List.length_cons, List.length_nil] at hl
      repeat' (first | refine run ⟨?_⟩ | refine ca (operand_ev hN _ _ ⟨by assumption, by assumption⟩ (by omega) _ _ (by first | omega | (simp only [List.take_length, List.length_append, List.length_cons, List.length_nil]; omega))) ?_ | refine ca (list_ev hN _ (by assumption) (by omega) _ _ (by first | omega | (simp only [List.take_length, List.length_append, List.length_cons, List.length_nil]; omega))) ?_ | refine ca (perhaps_ev hN _ (by assumption) _ _ (by first | omega | (simp only [List.take_length, List.length_append, List.length_cons, List.length_nil]; omega))) ?_ | refine ca (ahead_ev hN _ _ _ _ _ _ [[38]] (by assumption) (by assumption) hm _ _ (by first | omega | (simp only [List.take_length, List.length_append, List.length_cons, List.length_nil]; omega))) ?_ | refine and_t (decide_eq_true (by assumption)) ?_ | refine gt_t (decide_eq_true (by assumption)) ?_ | refine gd_t (decide_eq_true (by assumption)) ?_ | refine and_f (decide_eq_false (by assumption)) ?_ | refine gt_f (decide_eq_false (by assumption)) ?_ | refine gd_f (decide_eq_false (by assumption)) ?_ | refine ca (put1 _ _ _ (by first | omega | (simp only [List.take_length, List.length_append, List.length_cons, List.length_nil]; omega))) ?_ | refine ca (put2 _ _ _ _ (by first | omega | (simp only [List.take_length, List.length_append, List.length_cons, List.length_nil]; omega))) ?_ | refine ca (put3 _ _ _ _ _ (by first | omega | (simp only [List.take_length, List.length_append, List.length_cons, List.length_nil]; omega))) ?_ | refine ca (hN _ (by assumption) (by assumption) _ _ (by first | omega | (simp only [List.take_length, List.length_append, List.length_cons, List.length_nil]; omega))) ?_ | fail)
      first | exact ⟨rfl, by show PH t _ = PH t _; simp only [List.take_length, List.append_assoc, List.cons_append, List.nil_append, List.append_nil]⟩ | (show PH t _ = PH t _; simp only [List.take_length, List.append_assoc, List.cons_append, List.nil_append, List.append_nil])
  by_cases c41 : q = 41
  · subst c41
    obtain ⟨a, rfl⟩ := one_of (hlen.2.1 (by omega))
    obtain ⟨ha, ha'⟩ := hk a (by simp)
    have e0 : exprT t N ⟨41, tx, v, [a], f, e⟩ = opdT t N a true ++ [[46], tx] := by first | rfl | simp [exprT, *]
    rw [e0] at hl ⊢
    try simp only [List.length_append, List.length_cons, List.length_nil] at hl
    repeat' (first | refine run ⟨?_⟩ | refine ca (operand_ev hN _ _ ⟨by assumption, by assumption⟩ (by omega) _ _ (by first | omega | (simp only [List.take_length, List.length_append, List.length_cons, List.length_nil]; omega))) ?_ | refine ca (list_ev hN _ (by assumption) (by omega) _ _ (by first | omega | (simp only [List.take_length, List.length_append, List.length_cons, List.length_nil]; omega))) ?_ | refine ca (perhaps_ev hN _ (by assumption) _ _ (by first | omega | (simp only [List.take_length, List.length_append, List.length_cons, List.length_nil]; omega))) ?_ | refine and_t (decide_eq_true (by assumption)) ?_ | refine gt_t (decide_eq_true (by assumption)) ?_ | refine gd_t (decide_eq_true (by assumption)) ?_ | refine and_f (decide_eq_false (by assumption)) ?_ | refine gt_f (decide_eq_false (by assumption)) ?_ | refine gd_f (decide_eq_false (by assumption)) ?_ | refine ca (put1 _ _ _ (by first | omega | (simp only [List.take_length, List.length_append, List.length_cons, List.length_nil]; omega))) ?_ | refine ca (put2 _ _ _ _ (by first | omega | (simp only [List.take_length, List.length_append, List.length_cons, List.length_nil]; omega))) ?_ | refine ca (put3 _ _ _ _ _ (by first | omega | (simp only [List.take_length, List.length_append, List.length_cons, List.length_nil]; omega))) ?_ | refine ca (hN _ (by assumption) (by assumption) _ _ (by first | omega | (simp only [List.take_length, List.length_append, List.length_cons, List.length_nil]; omega))) ?_ | fail)
    first | exact ⟨rfl, by show PH t _ = PH t _; simp only [List.take_length, List.append_assoc, List.cons_append, List.nil_append, List.append_nil]⟩ | (show PH t _ = PH t _; simp only [List.take_length, List.append_assoc, List.cons_append, List.nil_append, List.append_nil])
  by_cases c45 : q = 45
  · subst c45
    rcases hlen.2.2.2.2.2.1 rfl with hl2 | hl2
    · obtain ⟨a, b, rfl⟩ := two_of (hl2)
      obtain ⟨ha, ha'⟩ := hk a (by simp)
      obtain ⟨hb, hb'⟩ := hk b (by simp)
      have e0 : exprT t N ⟨45, tx, v, [a, b], f, e⟩ = [[105, 102]] ++ opdT t N a false ++ N b ++ [] := by first | rfl | simp [exprT, *]
      rw [e0] at hl ⊢
      try simp only [List.length_append, List.length_cons, List.length_nil] at hl
      repeat' (first | refine run ⟨?_⟩ | refine ca (operand_ev hN _ _ ⟨by assumption, by assumption⟩ (by omega) _ _ (by first | omega | (simp only [List.take_length, List.length_append, List.length_cons, List.length_nil]; omega))) ?_ | refine ca (list_ev hN _ (by assumption) (by omega) _ _ (by first | omega | (simp only [List.take_length, List.length_append, List.length_cons, List.length_nil]; omega))) ?_ | refine ca (perhaps_ev hN _ (by assumption) _ _ (by first | omega | (simp only [List.take_length, List.length_append, List.length_cons, List.length_nil]; omega))) ?_ | refine and_t (decide_eq_true (by assumption)) ?_ | refine gt_t (decide_eq_true (by assumption)) ?_ | refine gd_t (decide_eq_true (by assumption)) ?_ | refine and_f (decide_eq_false (by assumption)) ?_ | refine gt_f (decide_eq_false (by assumption)) ?_ | refine gd_f (decide_eq_false (by assumption)) ?_ | refine ca (put1 _ _ _ (by first | omega | (simp only [List.take_length, List.length_append, List.length_cons, List.length_nil]; omega))) ?_ | refine ca (put2 _ _ _ _ (by first | omega | (simp only [List.take_length, List.length_append, List.length_cons, List.length_nil]; omega))) ?_ | refine ca (put3 _ _ _ _ _ (by first | omega | (simp only [List.take_length, List.length_append, List.length_cons, List.length_nil]; omega))) ?_ | refine ca (hN _ (by assumption) (by assumption) _ _ (by first | omega | (simp only [List.take_length, List.length_append, List.length_cons, List.length_nil]; omega))) ?_ | fail)
      first | exact ⟨rfl, by show PH t _ = PH t _; simp only [List.take_length, List.append_assoc, List.cons_append, List.nil_append, List.append_nil]⟩ | (show PH t _ = PH t _; simp only [List.take_length, List.append_assoc, List.cons_append, List.nil_append, List.append_nil])
    · obtain ⟨a, b, c, rfl⟩ := three_of (hl2)
      obtain ⟨ha, ha'⟩ := hk a (by simp)
      obtain ⟨hb, hb'⟩ := hk b (by simp)
      obtain ⟨hc, hc'⟩ := hk c (by simp)
      have e0 : exprT t N ⟨45, tx, v, [a, b, c], f, e⟩ = [[105, 102]] ++ opdT t N a false ++ N b ++ ([[101, 108, 115, 101]] ++ N c) := by first | rfl | simp [exprT, *]
      rw [e0] at hl ⊢
      try simp only [List.length_append, List.length_cons, List.length_nil] at hl
      repeat' (first | refine run ⟨?_⟩ | refine ca (operand_ev hN _ _ ⟨by assumption, by assumption⟩ (by omega) _ _ (by first | omega | (simp only [List.take_length, List.length_append, List.length_cons, List.length_nil]; omega))) ?_ | refine ca (list_ev hN _ (by assumption) (by omega) _ _ (by first | omega | (simp only [List.take_length, List.length_append, List.length_cons, List.length_nil]; omega))) ?_ | refine ca (perhaps_ev hN _ (by assumption) _ _ (by first | omega | (simp only [List.take_length, List.length_append, List.length_cons, List.length_nil]; omega))) ?_ | refine and_t (decide_eq_true (by assumption)) ?_ | refine gt_t (decide_eq_true (by assumption)) ?_ | refine gd_t (decide_eq_true (by assumption)) ?_ | refine and_f (decide_eq_false (by assumption)) ?_ | refine gt_f (decide_eq_false (by assumption)) ?_ | refine gd_f (decide_eq_false (by assumption)) ?_ | refine ca (put1 _ _ _ (by first | omega | (simp only [List.take_length, List.length_append, List.length_cons, List.length_nil]; omega))) ?_ | refine ca (put2 _ _ _ _ (by first | omega | (simp only [List.take_length, List.length_append, List.length_cons, List.length_nil]; omega))) ?_ | refine ca (put3 _ _ _ _ _ (by first | omega | (simp only [List.take_length, List.length_append, List.length_cons, List.length_nil]; omega))) ?_ | refine ca (hN _ (by assumption) (by assumption) _ _ (by first | omega | (simp only [List.take_length, List.length_append, List.length_cons, List.length_nil]; omega))) ?_ | fail)
      first | exact ⟨rfl, by show PH t _ = PH t _; simp only [List.take_length, List.append_assoc, List.cons_append, List.nil_append, List.append_nil]⟩ | (show PH t _ = PH t _; simp only [List.take_length, List.append_assoc, List.cons_append, List.nil_append, List.append_nil])
  by_cases c46 : q = 46
  · subst c46
    have h1 := hlen.2.2.2.2.2.2 rfl
    obtain ⟨a, r, rfl⟩ : ∃ a r, kids = a :: r := by
      cases kids with
      | nil => simp at h1
      | cons a r => exact ⟨a, r, rfl⟩
    obtain ⟨ha, ha'⟩ := hk a (by simp)
    have hr : ∀ k ∈ r, 0 ≤ k ∧ k < m := fun k h => hk k (by simp [h])
    simp only [List.length_cons] at hkl
    have e0 : exprT t N ⟨46, tx, v, a :: r, f, e⟩ = [[109, 97, 116, 99, 104]] ++ opdT t N a false ++ [[123]] ++ lstT N r ++ [[125]] := by first | rfl | simp [exprT, *]
    rw [e0] at hl ⊢
    try simp only [List.length_append, List.length_cons, List.length_nil] at hl
    repeat' (first | refine run ⟨?_⟩ | refine ca (operand_ev hN _ _ ⟨by assumption, by assumption⟩ (by omega) _ _ (by first | omega | (simp only [List.take_length, List.length_append, List.length_cons, List.length_nil]; omega))) ?_ | refine ca (list_ev hN _ (by assumption) (by omega) _ _ (by first | omega | (simp only [List.take_length, List.length_append, List.length_cons, List.length_nil]; omega))) ?_ | refine ca (perhaps_ev hN _ (by assumption) _ _ (by first | omega | (simp only [List.take_length, List.length_append, List.length_cons, List.length_nil]; omega))) ?_ | refine And.intro ⟨(by show 1 ≤ List.length (List.map _ (a :: r)); rw [List.length_map, List.length_cons]; omega), Nat.le_refl _, (by show (_ || _) = true; rw [Bool.or_eq_true]; exact .inr (by rw [List.all_map, List.all_eq_true]; intro x _; rfl))⟩ ?_ | refine ca (show evF _ _ [_, .d (.sl (List.drop 1 (List.take (List.length ((a :: r).map (D.int .i64))) ((a :: r).map (D.int .i64)))))] _ = _ from by rw [List.take_length, List.map_cons, List.drop_one, List.tail_cons]; exact list_ev hN r hr (by omega) _ _ (by first | omega | (simp only [List.take_length, List.length_append, List.length_cons, List.length_nil]; omega))) ?_ | refine and_t (decide_eq_true (by assumption)) ?_ | refine gt_t (decide_eq_true (by assumption)) ?_ | refine gd_t (decide_eq_true (by assumption)) ?_ | refine and_f (decide_eq_false (by assumption)) ?_ | refine gt_f (decide_eq_false (by assumption)) ?_ | refine gd_f (decide_eq_false (by assumption)) ?_ | refine ca (put1 _ _ _ (by first | omega | (simp only [List.take_length, List.length_append, List.length_cons, List.length_nil]; omega))) ?_ | refine ca (put2 _ _ _ _ (by first | omega | (simp only [List.take_length, List.length_append, List.length_cons, List.length_nil]; omega))) ?_ | refine ca (put3 _ _ _ _ _ (by first | omega | (simp only [List.take_length, List.length_append, List.length_cons, List.length_nil]; omega))) ?_ | refine ca (hN _ (by assumption) (by assumption) _ _ (by first | omega | (simp only [List.take_length, List.length_append, List.length_cons, List.length_nil]; omega))) ?_ | fail)
    first | exact ⟨rfl, by show PH t _ = PH t _; simp only [List.take_length, List.append_assoc, List.cons_append, List.nil_append, List.append_nil]⟩ | (show PH t _ = PH t _; simp only [List.take_length, List.append_assoc, List.cons_append, List.nil_append, List.append_nil])
  omega
end
end Go.Vm.Tre
