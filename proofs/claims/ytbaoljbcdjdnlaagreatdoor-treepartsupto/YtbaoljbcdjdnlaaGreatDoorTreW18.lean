import Derived.Test.YtbaoljbcdjdnlaaGreatDoorTreW15
import Derived.Test.YtbaoljbcdjdnlaaGreatDoorTreP13
set_option linter.unusedSimpArgs false
set_option linter.unusedVariables false
namespace Go.Vm.Tre
open Go.Vm.Tp
set_option maxRecDepth 10000
set_option linter.unusedSimpArgs false
section
variable {fx : Nat → Option Obj} {t : List Nd}
set_option maxHeartbeats 4000000 in
theorem node_step (f : Nat) (hN : NodOk fx t f (fun k => prN t f k.toNat)) (hft : f < t.length) (k : Int) (h0 : 0 ≤ k) (hkf : k < (f + 1 : Nat)) (hno : NodOf t k.toNat (nd t k.toNat)) (hf : Fine t) (l : Toks) (X : Hp) (hl : l.length + (prN t (f + 1) k.toNat).length ≤ LIM) : evF (pgL fx) n_tree_printer_node [.ptr 1 0, i64 k] (PH t l ++ X) = some (.tup [], PH t (l ++ prN t (f + 1) k.toNat) ++ X) := by
  refine evF_ext (mv fx) (h := PH t l) (h' := PH t (l ++ prN t (f + 1) k.toNat)) ?_ rfl rfl rfl rfl rfl
  obtain ⟨N, hNe⟩ : ∃ N : Int → Toks, N = fun k => prN t f k.toNat := ⟨_, rfl⟩
  rw [← hNe] at hN
  have eb : prN t (f + 1) k.toNat = bodyT t N (nd t k.toNat) := by rw [hNe]; rfl
  rw [eb] at hl ⊢
  clear eb hNe
  have hmem : nd t k.toNat ∈ t := nd_mem (by omega)
  have hkl := hf.kid _ hmem
  have htx := hf.txt _ hmem
  have hv := hf.iv _ hmem
  have hlen := hno.len
  have hfn := hno.fn
  have hkid : ∀ a ∈ (nd t k.toNat).kids, 0 ≤ a ∧ a < (f : Int) := fun a ha => by have := hno.kid a ha; omega
  have hkn := hno.kn
  have hnum := hno.num
  have hat : (t.map Nd.D)[k.toNat]? = some (nd t k.toNat).D := (ndD_at h0 (by omega)).2
  clear hmem hno
  revert hl hkl htx hv hlen hfn hkid hkn hnum hat
  generalize nd t k.toNat = x
  obtain ⟨q, tx, v, kids, fr, e⟩ := x
  intro hl hkl htx hv hlen hfn hkid hkn hnum hat
  simp only at hl hkl htx hv hlen hfn hkid hkn hnum
  have h52 : q = 52 → -9223372036854775808 < v := by rintro rfl; have e : numB 52 v (params (kinds t kids)) = decide (-9223372036854775808 < v) := rfl; rw [e, decide_eq_true_eq] at hnum; exact hnum
  have h30 : q = 30 → 0 ≤ v := by rintro rfl; have e : numB 30 v (params (kinds t kids)) = decide (0 ≤ v) := rfl; rw [e, decide_eq_true_eq] at hnum; exact hnum
  have hm : (f : Int) ≤ t.length := by omega
  refine evF_wqOn t_tree_printer_node rfl rfl rfl ?_
  repeat' (first | refine run ⟨?_⟩ | refine ca (put1 _ _ _ (by first | omega | (simp only [List.take_length, List.length_append, List.length_cons, List.length_nil]; omega))) ?_ | refine ca (put2 _ _ _ _ (by first | omega | (simp only [List.take_length, List.length_append, List.length_cons, List.length_nil]; omega))) ?_ | refine ca (put3 _ _ _ _ _ (by first | omega | (simp only [List.take_length, List.length_append, List.length_cons, List.length_nil]; omega))) ?_ | refine ca (hN _ (by assumption) (by assumption) _ _ (by first | omega | (simp only [List.take_length, List.length_append, List.length_cons, List.length_nil]; omega))) ?_ | fail)
  refine pickD (d := Nd.D ⟨q, tx, v, kids, fr, e⟩) ⟨h0, hat⟩ ?_
  by_cases c20 : q = 20
  · have e0 : bodyT t N ⟨q, tx, v, kids, fr, e⟩ = [[123]] ++ kids.flatMap N ++ [[125]] := by first | (unfold bodyT; simp [*]; done) | (unfold bodyT; simp only [c20, c7, cT, cS, if_false, Bool.false_eq_true]; first | exact if_pos (by omega) | exact if_neg (by omega))
    rw [e0] at hl ⊢
    repeat' (first | refine run ⟨?_⟩ | refine ca (isType_ev _ _) ?_ | refine ca (isStmt_ev _ _) ?_ | refine ca (block_ev hN ⟨q, tx, v, kids, fr, e⟩ hkid hkl _ _ (by simp only [List.length_append, List.length_cons, List.length_nil] at hl ⊢; omega)) ?_ | refine and_t (decide_eq_true (by assumption)) ?_ | refine gt_t (decide_eq_true (by assumption)) ?_ | refine gd_t (decide_eq_true (by assumption)) ?_ | refine and_f (decide_eq_false (by assumption)) ?_ | refine gt_f (decide_eq_false (by assumption)) ?_ | refine gd_f (decide_eq_false (by assumption)) ?_ | refine and_t (by assumption) ?_ | refine and_f (by assumption) ?_ | refine gt_t (by assumption) ?_ | refine gt_f (by assumption) ?_ | refine gd_t (by assumption) ?_ | refine gd_f (by assumption) ?_ | refine ca (put1 _ _ _ (by first | omega | (simp only [List.take_length, List.length_append, List.length_cons, List.length_nil]; omega))) ?_ | refine ca (put2 _ _ _ _ (by first | omega | (simp only [List.take_length, List.length_append, List.length_cons, List.length_nil]; omega))) ?_ | refine ca (put3 _ _ _ _ _ (by first | omega | (simp only [List.take_length, List.length_append, List.length_cons, List.length_nil]; omega))) ?_ | refine ca (hN _ (by assumption) (by assumption) _ _ (by first | omega | (simp only [List.take_length, List.length_append, List.length_cons, List.length_nil]; omega))) ?_ | fail)
    first | exact ⟨rfl, by show PH t _ = PH t _; simp only [List.take_length, List.append_assoc, List.cons_append, List.nil_append, List.append_nil]⟩ | (show PH t _ = PH t _; simp only [List.take_length, List.append_assoc, List.cons_append, List.nil_append, List.append_nil])
  by_cases c7 : q ≤ 7
  · have hk1 : 1 ≤ q ∧ q ≤ 7 := by
      simp only [knownB, isTy, isSt, isPa, isEx, Bool.or_eq_true, Bool.and_eq_true, decide_eq_true_eq, Bool.not_eq_true', decide_eq_false_iff_not] at hkn; omega
    have e0 : bodyT t N ⟨q, tx, v, kids, fr, e⟩ = itemT t N ⟨q, tx, v, kids, fr, e⟩ := by first | (unfold bodyT; simp [*]; done) | (unfold bodyT; simp only [c20, c7, cT, cS, if_false, Bool.false_eq_true]; first | exact if_pos (by omega) | exact if_neg (by omega))
    rw [e0] at hl ⊢
    repeat' (first | refine run ⟨?_⟩ | refine ca (isType_ev _ _) ?_ | refine ca (isStmt_ev _ _) ?_ | refine ca (item_ev hN ⟨q, tx, v, kids, fr, e⟩ hkid hm hk1 hlen hkl hfn _ _ hl) ?_ | refine and_t (decide_eq_true (by assumption)) ?_ | refine gt_t (decide_eq_true (by assumption)) ?_ | refine gd_t (decide_eq_true (by assumption)) ?_ | refine and_f (decide_eq_false (by assumption)) ?_ | refine gt_f (decide_eq_false (by assumption)) ?_ | refine gd_f (decide_eq_false (by assumption)) ?_ | refine and_t (by assumption) ?_ | refine and_f (by assumption) ?_ | refine gt_t (by assumption) ?_ | refine gt_f (by assumption) ?_ | refine gd_t (by assumption) ?_ | refine gd_f (by assumption) ?_ | refine ca (put1 _ _ _ (by first | omega | (simp only [List.take_length, List.length_append, List.length_cons, List.length_nil]; omega))) ?_ | refine ca (put2 _ _ _ _ (by first | omega | (simp only [List.take_length, List.length_append, List.length_cons, List.length_nil]; omega))) ?_ | refine ca (put3 _ _ _ _ _ (by first | omega | (simp only [List.take_length, List.length_append, List.length_cons, List.length_nil]; omega))) ?_ | refine ca (hN _ (by assumption) (by assumption) _ _ (by first | omega | (simp only [List.take_length, List.length_append, List.length_cons, List.length_nil]; omega))) ?_ | fail)
    first | exact ⟨rfl, by show PH t _ = PH t _; simp only [List.take_length, List.append_assoc, List.cons_append, List.nil_append, List.append_nil]⟩ | (show PH t _ = PH t _; simp only [List.take_length, List.append_assoc, List.cons_append, List.nil_append, List.append_nil])
  cases cT : isTy q with
  | true =>
    have e0 : bodyT t N ⟨q, tx, v, kids, fr, e⟩ = typT N ⟨q, tx, v, kids, fr, e⟩ := by first | (unfold bodyT; simp [*]; done) | (unfold bodyT; simp only [c20, c7, cT, cS, if_false, Bool.false_eq_true]; first | exact if_pos (by omega) | exact if_neg (by omega))
    rw [e0] at hl ⊢
    repeat' (first | refine run ⟨?_⟩ | refine ca (isType_ev _ _) ?_ | refine ca (isStmt_ev _ _) ?_ | refine ca (typ_ev hN ⟨q, tx, v, kids, fr, e⟩ hkid cT hlen _ _ hl) ?_ | refine and_t (decide_eq_true (by assumption)) ?_ | refine gt_t (decide_eq_true (by assumption)) ?_ | refine gd_t (decide_eq_true (by assumption)) ?_ | refine and_f (decide_eq_false (by assumption)) ?_ | refine gt_f (decide_eq_false (by assumption)) ?_ | refine gd_f (decide_eq_false (by assumption)) ?_ | refine and_t (by assumption) ?_ | refine and_f (by assumption) ?_ | refine gt_t (by assumption) ?_ | refine gt_f (by assumption) ?_ | refine gd_t (by assumption) ?_ | refine gd_f (by assumption) ?_ | refine ca (put1 _ _ _ (by first | omega | (simp only [List.take_length, List.length_append, List.length_cons, List.length_nil]; omega))) ?_ | refine ca (put2 _ _ _ _ (by first | omega | (simp only [List.take_length, List.length_append, List.length_cons, List.length_nil]; omega))) ?_ | refine ca (put3 _ _ _ _ _ (by first | omega | (simp only [List.take_length, List.length_append, List.length_cons, List.length_nil]; omega))) ?_ | refine ca (hN _ (by assumption) (by assumption) _ _ (by first | omega | (simp only [List.take_length, List.length_append, List.length_cons, List.length_nil]; omega))) ?_ | fail)
    first | exact ⟨rfl, by show PH t _ = PH t _; simp only [List.take_length, List.append_assoc, List.cons_append, List.nil_append, List.append_nil]⟩ | (show PH t _ = PH t _; simp only [List.take_length, List.append_assoc, List.cons_append, List.nil_append, List.append_nil])
  | false =>
  cases cS : isSt q with
  | true =>
    have e0 : bodyT t N ⟨q, tx, v, kids, fr, e⟩ = stmtT t N ⟨q, tx, v, kids, fr, e⟩ := by first | (unfold bodyT; simp [*]; done) | (unfold bodyT; simp only [c20, c7, cT, cS, if_false, Bool.false_eq_true]; first | exact if_pos (by omega) | exact if_neg (by omega))
    rw [e0] at hl ⊢
    repeat' (first | refine run ⟨?_⟩ | refine ca (isType_ev _ _) ?_ | refine ca (isStmt_ev _ _) ?_ | refine ca (stmt_ev hN ⟨q, tx, v, kids, fr, e⟩ hkid hm cS hlen hkl _ _ hl) ?_ | refine and_t (decide_eq_true (by assumption)) ?_ | refine gt_t (decide_eq_true (by assumption)) ?_ | refine gd_t (decide_eq_true (by assumption)) ?_ | refine and_f (decide_eq_false (by assumption)) ?_ | refine gt_f (decide_eq_false (by assumption)) ?_ | refine gd_f (decide_eq_false (by assumption)) ?_ | refine and_t (by assumption) ?_ | refine and_f (by assumption) ?_ | refine gt_t (by assumption) ?_ | refine gt_f (by assumption) ?_ | refine gd_t (by assumption) ?_ | refine gd_f (by assumption) ?_ | refine ca (put1 _ _ _ (by first | omega | (simp only [List.take_length, List.length_append, List.length_cons, List.length_nil]; omega))) ?_ | refine ca (put2 _ _ _ _ (by first | omega | (simp only [List.take_length, List.length_append, List.length_cons, List.length_nil]; omega))) ?_ | refine ca (put3 _ _ _ _ _ (by first | omega | (simp only [List.take_length, List.length_append, List.length_cons, List.length_nil]; omega))) ?_ | refine ca (hN _ (by assumption) (by assumption) _ _ (by first | omega | (simp only [List.take_length, List.length_append, List.length_cons, List.length_nil]; omega))) ?_ | fail)
    first | exact ⟨rfl, by show PH t _ = PH t _; simp only [List.take_length, List.append_assoc, List.cons_append, List.nil_append, List.append_nil]⟩ | (show PH t _ = PH t _; simp only [List.take_length, List.append_assoc, List.cons_append, List.nil_append, List.append_nil])
  | false =>
  by_cases a1 : 38 ≤ q
  · by_cases a2 : q ≤ 43
    · have e0 : bodyT t N ⟨q, tx, v, kids, fr, e⟩ = exprT t N ⟨q, tx, v, kids, fr, e⟩ := by first | (unfold bodyT; simp [*]; done) | (unfold bodyT; simp only [c20, c7, cT, cS, if_false, Bool.false_eq_true]; first | exact if_pos (by omega) | exact if_neg (by omega))
      rw [e0] at hl ⊢
      repeat' (first | refine run ⟨?_⟩ | refine ca (isType_ev _ _) ?_ | refine ca (isStmt_ev _ _) ?_ | refine ca (expr_ev hN ⟨q, tx, v, kids, fr, e⟩ hkid hm (.inl ⟨a1, a2⟩) hlen hkl _ _ hl) ?_ | refine and_t (decide_eq_true (by assumption)) ?_ | refine gt_t (decide_eq_true (by assumption)) ?_ | refine gd_t (decide_eq_true (by assumption)) ?_ | refine and_f (decide_eq_false (by assumption)) ?_ | refine gt_f (decide_eq_false (by assumption)) ?_ | refine gd_f (decide_eq_false (by assumption)) ?_ | refine and_t (by assumption) ?_ | refine and_f (by assumption) ?_ | refine gt_t (by assumption) ?_ | refine gt_f (by assumption) ?_ | refine gd_t (by assumption) ?_ | refine gd_f (by assumption) ?_ | refine ca (put1 _ _ _ (by first | omega | (simp only [List.take_length, List.length_append, List.length_cons, List.length_nil]; omega))) ?_ | refine ca (put2 _ _ _ _ (by first | omega | (simp only [List.take_length, List.length_append, List.length_cons, List.length_nil]; omega))) ?_ | refine ca (put3 _ _ _ _ _ (by first | omega | (simp only [List.take_length, List.length_append, List.length_cons, List.length_nil]; omega))) ?_ | refine ca (hN _ (by assumption) (by assumption) _ _ (by first | omega | (simp only [List.take_length, List.length_append, List.length_cons, List.length_nil]; omega))) ?_ | fail)
      first | exact ⟨rfl, by show PH t _ = PH t _; simp only [List.take_length, List.append_assoc, List.cons_append, List.nil_append, List.append_nil]⟩ | (show PH t _ = PH t _; simp only [List.take_length, List.append_assoc, List.cons_append, List.nil_append, List.append_nil])
    by_cases a3 : q = 45
    · have e0 : bodyT t N ⟨q, tx, v, kids, fr, e⟩ = exprT t N ⟨q, tx, v, kids, fr, e⟩ := by first | (unfold bodyT; simp [*]; done) | (unfold bodyT; simp only [c20, c7, cT, cS, if_false, Bool.false_eq_true]; first | exact if_pos (by omega) | exact if_neg (by omega))
      rw [e0] at hl ⊢
      repeat' (first | refine run ⟨?_⟩ | refine ca (isType_ev _ _) ?_ | refine ca (isStmt_ev _ _) ?_ | refine ca (expr_ev hN ⟨q, tx, v, kids, fr, e⟩ hkid hm (.inr (.inl a3)) hlen hkl _ _ hl) ?_ | refine and_t (decide_eq_true (by assumption)) ?_ | refine gt_t (decide_eq_true (by assumption)) ?_ | refine gd_t (decide_eq_true (by assumption)) ?_ | refine and_f (decide_eq_false (by assumption)) ?_ | refine gt_f (decide_eq_false (by assumption)) ?_ | refine gd_f (decide_eq_false (by assumption)) ?_ | refine and_t (by assumption) ?_ | refine and_f (by assumption) ?_ | refine gt_t (by assumption) ?_ | refine gt_f (by assumption) ?_ | refine gd_t (by assumption) ?_ | refine gd_f (by assumption) ?_ | refine ca (put1 _ _ _ (by first | omega | (simp only [List.take_length, List.length_append, List.length_cons, List.length_nil]; omega))) ?_ | refine ca (put2 _ _ _ _ (by first | omega | (simp only [List.take_length, List.length_append, List.length_cons, List.length_nil]; omega))) ?_ | refine ca (put3 _ _ _ _ _ (by first | omega | (simp only [List.take_length, List.length_append, List.length_cons, List.length_nil]; omega))) ?_ | refine ca (hN _ (by assumption) (by assumption) _ _ (by first | omega | (simp only [List.take_length, List.length_append, List.length_cons, List.length_nil]; omega))) ?_ | fail)
      first | exact ⟨rfl, by show PH t _ = PH t _; simp only [List.take_length, List.append_assoc, List.cons_append, List.nil_append, List.append_nil]⟩ | (show PH t _ = PH t _; simp only [List.take_length, List.append_assoc, List.cons_append, List.nil_append, List.append_nil])
    by_cases a4 : q = 46
    · have e0 : bodyT t N ⟨q, tx, v, kids, fr, e⟩ = exprT t N ⟨q, tx, v, kids, fr, e⟩ := by first | (unfold bodyT; simp [*]; done) | (unfold bodyT; simp only [c20, c7, cT, cS, if_false, Bool.false_eq_true]; first | exact if_pos (by omega) | exact if_neg (by omega))
      rw [e0] at hl ⊢
      repeat' (first | refine run ⟨?_⟩ | refine ca (isType_ev _ _) ?_ | refine ca (isStmt_ev _ _) ?_ | refine ca (expr_ev hN ⟨q, tx, v, kids, fr, e⟩ hkid hm (.inr (.inr a4)) hlen hkl _ _ hl) ?_ | refine and_t (decide_eq_true (by assumption)) ?_ | refine gt_t (decide_eq_true (by assumption)) ?_ | refine gd_t (decide_eq_true (by assumption)) ?_ | refine and_f (decide_eq_false (by assumption)) ?_ | refine gt_f (decide_eq_false (by assumption)) ?_ | refine gd_f (decide_eq_false (by assumption)) ?_ | refine and_t (by assumption) ?_ | refine and_f (by assumption) ?_ | refine gt_t (by assumption) ?_ | refine gt_f (by assumption) ?_ | refine gd_t (by assumption) ?_ | refine gd_f (by assumption) ?_ | refine ca (put1 _ _ _ (by first | omega | (simp only [List.take_length, List.length_append, List.length_cons, List.length_nil]; omega))) ?_ | refine ca (put2 _ _ _ _ (by first | omega | (simp only [List.take_length, List.length_append, List.length_cons, List.length_nil]; omega))) ?_ | refine ca (put3 _ _ _ _ _ (by first | omega | (simp only [List.take_length, List.length_append, List.length_cons, List.length_nil]; omega))) ?_ | refine ca (hN _ (by assumption) (by assumption) _ _ (by first | omega | (simp only [List.take_length, List.length_append, List.length_cons, List.length_nil]; omega))) ?_ | fail)
      first | exact ⟨rfl, by show PH t _ = PH t _; simp only [List.take_length, List.append_assoc, List.cons_append, List.nil_append, List.append_nil]⟩ | (show PH t _ = PH t _; simp only [List.take_length, List.append_assoc, List.cons_append, List.nil_append, List.append_nil])
    have e0 : bodyT t N ⟨q, tx, v, kids, fr, e⟩ = primT N ⟨q, tx, v, kids, fr, e⟩ := by first | (unfold bodyT; simp [*]; done) | (unfold bodyT; simp only [c20, c7, cT, cS, if_false, Bool.false_eq_true]; first | exact if_pos (by omega) | exact if_neg (by omega))
    rw [e0] at hl ⊢
    repeat' (first | refine run ⟨?_⟩ | refine ca (isType_ev _ _) ?_ | refine ca (isStmt_ev _ _) ?_ | refine ca (primary_ev hN ⟨q, tx, v, kids, fr, e⟩ hkid hlen hkl hv h52 h30 htx (by show ¬ ((38 ≤ q ∧ q ≤ 43) ∨ q = 45 ∨ q = 46); omega) _ _ hl) ?_ | refine and_t (decide_eq_true (by assumption)) ?_ | refine gt_t (decide_eq_true (by assumption)) ?_ | refine gd_t (decide_eq_true (by assumption)) ?_ | refine and_f (decide_eq_false (by assumption)) ?_ | refine gt_f (decide_eq_false (by assumption)) ?_ | refine gd_f (decide_eq_false (by assumption)) ?_ | refine and_t (by assumption) ?_ | refine and_f (by assumption) ?_ | refine gt_t (by assumption) ?_ | refine gt_f (by assumption) ?_ | refine gd_t (by assumption) ?_ | refine gd_f (by assumption) ?_ | refine ca (put1 _ _ _ (by first | omega | (simp only [List.take_length, List.length_append, List.length_cons, List.length_nil]; omega))) ?_ | refine ca (put2 _ _ _ _ (by first | omega | (simp only [List.take_length, List.length_append, List.length_cons, List.length_nil]; omega))) ?_ | refine ca (put3 _ _ _ _ _ (by first | omega | (simp only [List.take_length, List.length_append, List.length_cons, List.length_nil]; omega))) ?_ | refine ca (hN _ (by assumption) (by assumption) _ _ (by first | omega | (simp only [List.take_length, List.length_append, List.length_cons, List.length_nil]; omega))) ?_ | fail)
    first | exact ⟨rfl, by show PH t _ = PH t _; simp only [List.take_length, List.append_assoc, List.cons_append, List.nil_append, List.append_nil]⟩ | (show PH t _ = PH t _; simp only [List.take_length, List.append_assoc, List.cons_append, List.nil_append, List.append_nil])
  by_cases a3 : q = 45
  · have e0 : bodyT t N ⟨q, tx, v, kids, fr, e⟩ = exprT t N ⟨q, tx, v, kids, fr, e⟩ := by first | (unfold bodyT; simp [*]; done) | (unfold bodyT; simp only [c20, c7, cT, cS, if_false, Bool.false_eq_true]; first | exact if_pos (by omega) | exact if_neg (by omega))
    rw [e0] at hl ⊢
    repeat' (first | refine run ⟨?_⟩ | refine ca (isType_ev _ _) ?_ | refine ca (isStmt_ev _ _) ?_ | refine ca (expr_ev hN ⟨q, tx, v, kids, fr, e⟩ hkid hm (.inr (.inl a3)) hlen hkl _ _ hl) ?_ | refine and_t (decide_eq_true (by assumption)) ?_ | refine gt_t (decide_eq_true (by assumption)) ?_ | refine gd_t (decide_eq_true (by assumption)) ?_ | refine and_f (decide_eq_false (by assumption)) ?_ | refine gt_f (decide_eq_false (by assumption)) ?_ | refine gd_f (decide_eq_false (by assumption)) ?_ | refine and_t (by assumption) ?_ | refine and_f (by assumption) ?_ | refine gt_t (by assumption) ?_ | refine gt_f (by assumption) ?_ | refine gd_t (by assumption) ?_ | refine gd_f (by assumption) ?_ | refine ca (put1 _ _ _ (by first | omega | (simp only [List.take_length, List.length_append, List.length_cons, List.length_nil]; omega))) ?_ | refine ca (put2 _ _ _ _ (by first | omega | (simp only [List.take_length, List.length_append, List.length_cons, List.length_nil]; omega))) ?_ | refine ca (put3 _ _ _ _ _ (by first | omega | (simp only [List.take_length, List.length_append, List.length_cons, List.length_nil]; omega))) ?_ | refine ca (hN _ (by assumption) (by assumption) _ _ (by first | omega | (simp only [List.take_length, List.length_append, List.length_cons, List.length_nil]; omega))) ?_ | fail)
    first | exact ⟨rfl, by show PH t _ = PH t _; simp only [List.take_length, List.append_assoc, List.cons_append, List.nil_append, List.append_nil]⟩ | (show PH t _ = PH t _; simp only [List.take_length, List.append_assoc, List.cons_append, List.nil_append, List.append_nil])
  by_cases a4 : q = 46
  · have e0 : bodyT t N ⟨q, tx, v, kids, fr, e⟩ = exprT t N ⟨q, tx, v, kids, fr, e⟩ := by first | (unfold bodyT; simp [*]; done) | (unfold bodyT; simp only [c20, c7, cT, cS, if_false, Bool.false_eq_true]; first | exact if_pos (by omega) | exact if_neg (by omega))
    rw [e0] at hl ⊢
    repeat' (first | refine run ⟨?_⟩ | refine ca (isType_ev _ _) ?_ | refine ca (isStmt_ev _ _) ?_ | refine ca (expr_ev hN ⟨q, tx, v, kids, fr, e⟩ hkid hm (.inr (.inr a4)) hlen hkl _ _ hl) ?_ | refine and_t (decide_eq_true (by assumption)) ?_ | refine gt_t (decide_eq_true (by assumption)) ?_ | refine gd_t (decide_eq_true (by assumption)) ?_ | refine and_f (decide_eq_false (by assumption)) ?_ | refine gt_f (decide_eq_false (by assumption)) ?_ | refine gd_f (decide_eq_false (by assumption)) ?_ | refine and_t (by assumption) ?_ | refine and_f (by assumption) ?_ | refine gt_t (by assumption) ?_ | refine gt_f (by assumption) ?_ | refine gd_t (by assumption) ?_ | refine gd_f (by assumption) ?_ | refine ca (put1 _ _ _ (by first | omega | (simp only [List.take_length, List.length_append, List.length_cons, List.length_nil]; omega))) ?_ | refine ca (put2 _ _ _ _ (by first | omega | (simp only [List.take_length, List.length_append, List.length_cons, List.length_nil]; omega))) ?_ | refine ca (put3 _ _ _ _ _ (by first | omega | (simp only [List.take_length, List.length_append, List.length_cons, List.length_nil]; omega))) ?_ | refine ca (hN _ (by assumption) (by assumption) _ _ (by first | omega | (simp only [List.take_length, List.length_append, List.length_cons, List.length_nil]; omega))) ?_ | fail)
    first | exact ⟨rfl, by show PH t _ = PH t _; simp only [List.take_length, List.append_assoc, List.cons_append, List.nil_append, List.append_nil]⟩ | (show PH t _ = PH t _; simp only [List.take_length, List.append_assoc, List.cons_append, List.nil_append, List.append_nil])
  have e0 : bodyT t N ⟨q, tx, v, kids, fr, e⟩ = primT N ⟨q, tx, v, kids, fr, e⟩ := by first | (unfold bodyT; simp [*]; done) | (unfold bodyT; simp only [c20, c7, cT, cS, if_false, Bool.false_eq_true]; first | exact if_pos (by omega) | exact if_neg (by omega))
  rw [e0] at hl ⊢
  repeat' (first | refine run ⟨?_⟩ | refine ca (isType_ev _ _) ?_ | refine ca (isStmt_ev _ _) ?_ | refine ca (primary_ev hN ⟨q, tx, v, kids, fr, e⟩ hkid hlen hkl hv h52 h30 htx (by show ¬ ((38 ≤ q ∧ q ≤ 43) ∨ q = 45 ∨ q = 46); omega) _ _ hl) ?_ | refine and_t (decide_eq_true (by assumption)) ?_ | refine gt_t (decide_eq_true (by assumption)) ?_ | refine gd_t (decide_eq_true (by assumption)) ?_ | refine and_f (decide_eq_false (by assumption)) ?_ | refine gt_f (decide_eq_false (by assumption)) ?_ | refine gd_f (decide_eq_false (by assumption)) ?_ | refine and_t (by assumption) ?_ | refine and_f (by assumption) ?_ | refine gt_t (by assumption) ?_ | refine gt_f (by assumption) ?_ | refine gd_t (by assumption) ?_ | refine gd_f (by assumption) ?_ | refine ca (put1 _ _ _ (by first | omega | (simp only [List.take_length, List.length_append, List.length_cons, List.length_nil]; omega))) ?_ | refine ca (put2 _ _ _ _ (by first | omega | (simp only [List.take_length, List.length_append, List.length_cons, List.length_nil]; omega))) ?_ | refine ca (put3 _ _ _ _ _ (by first | omega | (simp only [List.take_length, List.length_append, List.length_cons, List.length_nil]; omega))) ?_ | refine ca (hN _ (by assumption) (by assumption) _ _ (by first | omega | (simp only [List.take_length, List.length_append, List.length_cons, List.length_nil]; omega))) ?_ | fail)
  first | exact ⟨rfl, by show PH t _ = PH t _; simp only [List.take_length, List.append_assoc, List.cons_append, List.nil_append, List.append_nil]⟩ | (show PH t _ = PH t _; simp only [List.take_length, List.append_assoc, List.cons_append, List.nil_append, List.append_nil])
theorem node_ok (hnod : ∀ i, i < t.length → NodOf t i (nd t i)) (hf : Fine t) : ∀ f, f ≤ t.length → NodOk fx t f (fun k => prN t f k.toNat)
  | 0, _ => fun k h0 h1 => by omega
  | f + 1, h => fun k h0 h1 l X hl => node_step f (node_ok hnod hf f (by omega)) (by omega) k h0 h1 (hnod _ (by omega)) hf l X hl
end
end Go.Vm.Tre
namespace Go.Vm.Tre
open Go.Vm.Tp
set_option maxRecDepth 10000
set_option linter.unusedSimpArgs false
section
variable {fx : Nat → Option Obj} (H : Hp)
theorem join_ev (xs : Toks) (h1 : xs.length ≤ 400200000) (h2 : AllT xs) : evF (pgL fx) n_primJoin [.d (.sl (xs.map .str)), str [32]] H = some (str (Lib.join xs [32]), H) := by
  have hl := join_le xs (n := 64) fun s hs => (h2 s hs).2
  rw [evF_prim t_primJoin]
  show (match strsOf (xs.map D.str) with
    | some xs => if xs.length ≤ 140737488355328 ∧ (Lib.join xs [32]).length ≤ 140737488355328 then some (V.d (.str (Lib.join xs [32])), H) else none
    | none => none) = _
  rw [strsOf_map]
  exact if_pos ⟨by omega, by omega⟩
theorem treeOk_of {t : List Nd} (h : checkB t = true) : ∃ up, TreeOk t up := treeOk h
set_option maxHeartbeats 1000000 in
theorem print_ev (t : List Nd) (hf : Fine t) : evF (pgL fx) n_tree_Print [.d (treeD t)] H = some (.tup [str (prA t).1, i64 (prA t).2], H) := by
  refine evF_wq t_tree_Print rfl rfl ?_ H
  have htl := hf.len
  have hnl : (t.map Nd.D).length = t.length := List.length_map ..
  repeat' (first | refine run ⟨?_⟩ | refine ca (check_ev _ t hf) ?_ | fail)
  cases hc : checkB t with
  | false =>
    have e : prA t = ([], 3) := by unfold prA; rw [hc]; rfl
    rw [e]
    repeat' (first | refine run ⟨?_⟩ | fail)
    exact rfl
  | true =>
    have e : prA t = (prS t, 0) := by unfold prA; rw [hc]; rfl
    rw [e]
    obtain ⟨up, hT⟩ := treeOk_of hc
    have h1 := hT.lo
    have h2 := hT.hi
    have hp := prT_len hT
    have ha : AllT (prT t) := prN_tok hT.nod hf.iv _ _
    repeat' (first | refine run ⟨?_⟩ | fail)
    have hn := node_ok (fx := fx) hT.nod hf t.length (Nat.le_refl _) ((t.length - 1 : Nat) : Int) (by omega) (by omega) [] [] (by show 0 + (prT t).length ≤ LIM; unfold LIM; omega)
    have hw : IntKind.i64.wrap (((t.map Nd.D).length : Int) - 1) = ((t.length - 1 : Nat) : Int) := by rw [hnl, i64w (by omega)]; omega
    have hcall : evF (pgL fx) n_tree_printer_node [.ptr 2 0, i64 (IntKind.i64.wrap (((t.map Nd.D).length : Int) - 1))] [.box [.d (.sl (t.map Nd.D))], .row 1 [], .box [.d (.sl (t.map Nd.D)), .row 1 0]] = some (.tup [], [.box [.d (.sl (t.map Nd.D))], .row 1 ((prT t).map D.str), .box [.d (.sl (t.map Nd.D)), .row 1 (prT t).length]]) := by
      rw [hw]
      exact evF_at (mv fx) [1, 2] hn rfl rfl rfl rfl rfl
    refine ca hcall ?_
    repeat' (first | refine run ⟨?_⟩ | fail)
    refine And.intro (List.length_map ..) ?_
    refine ca (join_ev _ (prT t) hp ha) ?_
    repeat' (first | refine run ⟨?_⟩ | fail)
    exact rfl
end
end Go.Vm.Tre
namespace Go.Vm.Tre
open Go.Vm.Tp
set_option maxRecDepth 10000
set_option linter.unusedSimpArgs false
section
variable {fx : Nat → Option Obj} (H : Hp)
theorem dep_ev (t : List Nd) (hf : Fine t) : evF (pgL fx) n_tree_Depth [.d (treeD t)] H = some (.tup [i64 (depA t).1, i64 (depA t).2], H) := by
  refine evF_wq t_tree_Depth rfl rfl ?_ H
  have htl := hf.len
  repeat' (first | refine run ⟨?_⟩ | refine ca (check_ev _ t hf) ?_ | fail)
  cases hc : checkB t with
  | false =>
    have e : depA t = (0, 3) := by unfold depA; rw [hc]; rfl
    rw [e]
    repeat' (first | refine run ⟨?_⟩ | fail)
    exact rfl
  | true =>
    have e : depA t = (maxL (deps (upT t)), 0) := by unfold depA; rw [hc]; rfl
    rw [e]
    obtain ⟨up, hT⟩ := treeOk_of hc
    have h1 := hT.lo
    have h2 := hT.hi
    have hu := hT.ups
    have hlen := hT.up.len
    have hpe := parents_ev (fx := fx) (H := [.box [.d (.sl (t.map Nd.D))]]) t hf (fun i hi => List.all_eq_true.2 fun k hk => by have := (hT.nod i hi).kid k hk; unfold kidOk; simp; omega)
    rw [hu] at hpe
    rw [hT.upT]
    repeat' (first | refine run ⟨?_⟩ | refine ca hpe ?_ | fail)
    refine ca (depths_ev _ up (by omega) (by rw [hlen]; exact (ups_facts hu).2)) ?_
    have hdl : (deps up).length = up.length := by unfold deps; rw [depGo_len, List.length_replicate]
    obtain ⟨a, r, hd⟩ := cons_of_len (up := deps up) (by omega)
    rw [hd]
    have hrl : r.length < 1048576 := by have := congrArg List.length hd; simp at this; omega
    refine ca (max_ev _ a r hrl) ?_
    repeat' (first | refine run ⟨?_⟩ | fail)
    exact rfl
def smallT : List Nd := [⟨12, [], 0, [], 0, 0⟩, ⟨20, [], 0, [], 0, 0⟩, ⟨2, [109, 97, 105, 110], 0, [0, 1], 0, 0⟩, ⟨1, [], 0, [2], 0, 0⟩]
theorem small_fine : Fine smallT := by
  constructor <;> simp [smallT, I64]
theorem small_pr : prA smallT = ([102, 110, 32, 109, 97, 105, 110, 32, 40, 32, 41, 32, 123, 32, 125], 0) := by decide +kernel
theorem small_dp : depA smallT = (2, 0) := by decide +kernel
theorem nil_fine : Fine [] := by constructor <;> simp
theorem small_ev : evF (pgL fx) n_law13_small [] H = some (boo true, H) := by
  refine evF_wq t_law13_small rfl rfl ?_ H
  have h1 := fun H => print_ev (fx := fx) H smallT small_fine
  have h2 := fun H => dep_ev (fx := fx) H smallT small_fine
  have h3 := fun H => check_ev (fx := fx) H [] nil_fine
  rw [small_pr] at h1
  rw [small_dp] at h2
  repeat' (first | refine run ⟨?_⟩ | refine ⟨_, rfl, ?_⟩ | refine ca (h1 _) ?_ | refine ca (h2 _) ?_ | refine ca (h3 _) ?_ | fail)
  exact rfl
end
end Go.Vm.Tre
