import Derived.Test.YtbaoljbcdjdnlaaDoorTrdW20
import Derived.Test.YtbaoljbcdjdnlaaDoorTrdP10
/- Trees that are the same but for their places. -/
namespace Go.Vm.Trd
open Go.Vm.Tp
set_option maxRecDepth 10000
set_option linter.unusedSimpArgs false
theorem take_more {α : Type} [Inhabited α] {a b : List α} {i : Nat} (ha : i < a.length) (hb : i < b.length) (h : a.take i = b.take i) (e : a.getD i default = b.getD i default) : a.take (i + 1) = b.take (i + 1) := by
  rw [List.take_add_one, List.take_add_one, h]
  simp only [List.getD_eq_getElem?_getD, List.getElem?_eq_getElem ha, List.getElem?_eq_getElem hb, Option.getD_some] at e
  rw [List.getElem?_eq_getElem ha, List.getElem?_eq_getElem hb, e]
theorem sameT_step {a b : List Nd} {i : Nat} (ha : i < a.length) (hb : i < b.length) : sameT (a.drop i) (b.drop i) = (sameNd (nd a i) (nd b i) && sameT (a.drop (i + 1)) (b.drop (i + 1))) := by
  rw [List.drop_eq_getElem_cons ha, List.drop_eq_getElem_cons hb]
  have e1 : nd a i = a[i] := by simp [nd, ha]
  have e2 : nd b i = b[i] := by simp [nd, hb]
  rw [e1, e2]; rfl
theorem sameT_len : ∀ {a b : List Nd}, a.length ≠ b.length → sameT a b = false
  | [], [], h => absurd rfl h
  | [], _ :: _, _ => rfl
  | _ :: _, [], _ => rfl
  | x :: a, y :: b, h => by
    show (sameNd x y && sameT a b) = false
    rw [sameT_len (fun e => h (by simp [e])), Bool.and_false]
section
variable {fx : Nat → Option Obj} (H : Hp)
set_option maxHeartbeats 1000000 in
theorem equal_ev (a b : List Int) (ha : a.length ≤ 9223372036854775807) : evF (pgL fx) n_slices_Equal_int_int [ints a, ints b] H = some (boo (decide (a = b)), H) := by
  refine evF_wq t_slices_Equal_int_int rfl rfl ?_ H
  have hna : (a.map (D.int .i64)).length = a.length := List.length_map ..
  have hnb : (b.map (D.int .i64)).length = b.length := List.length_map ..
  by_cases hl : a.length = b.length
  rotate_left
  · have e : decide (a = b) = false := decide_eq_false (fun e => hl (by rw [e]))
    rw [e]
    repeat' (first | ((with_reducible show WQ _ _ _ _ _ _ _); (first | refine q_seq ?_ | refine q_block ?_ | refine q_reg ?_ | refine q_cond ?_ | refine q_exit ?_ | refine q_ret ?_ | refine q_skip ?_ | refine q_scope ?_ | refine q_draw ?_ | refine q_loop ?_ | refine q_mkrow ?_ | refine q_bindto ?_ | refine q_freeze ?_ | refine q_newrow ?_ | refine q_bindrow ?_)) | refine ks_nrm ?_ | refine ks_exit ?_ | refine ks_ret ?_ | refine kb_hit rfl ?_ | refine kb_exit rfl ?_ | refine kb_nrm ?_ | refine kb_ret ?_ | refine kl_nrm ?_ | refine kl_exit ?_ | refine kl_ret ?_ | refine And.intro (grew_self _) ?_ | refine and_t rfl ?_ | refine and_f rfl ?_ | refine gt_t rfl ?_ | refine gt_f rfl ?_ | refine gd_t rfl ?_ | refine gd_f rfl ?_ | refine pickD ⟨by first | decide | exact Int.NonNeg.mk _, rfl⟩ ?_ | refine And.intro rfl ?_ | ((fail_if_success with_reducible show WQ _ _ _ _ _ _ _); show WQ _ _ _ _ _ _ _) | fail)
    refine and_t (by simp; omega) ?_
    repeat' (first | ((with_reducible show WQ _ _ _ _ _ _ _); (first | refine q_seq ?_ | refine q_block ?_ | refine q_reg ?_ | refine q_cond ?_ | refine q_exit ?_ | refine q_ret ?_ | refine q_skip ?_ | refine q_scope ?_ | refine q_draw ?_ | refine q_loop ?_ | refine q_mkrow ?_ | refine q_bindto ?_ | refine q_freeze ?_ | refine q_newrow ?_ | refine q_bindrow ?_)) | refine ks_nrm ?_ | refine ks_exit ?_ | refine ks_ret ?_ | refine kb_hit rfl ?_ | refine kb_exit rfl ?_ | refine kb_nrm ?_ | refine kb_ret ?_ | refine kl_nrm ?_ | refine kl_exit ?_ | refine kl_ret ?_ | refine And.intro (grew_self _) ?_ | refine and_t rfl ?_ | refine and_f rfl ?_ | refine gt_t rfl ?_ | refine gt_f rfl ?_ | refine gd_t rfl ?_ | refine gd_f rfl ?_ | refine pickD ⟨by first | decide | exact Int.NonNeg.mk _, rfl⟩ ?_ | refine And.intro rfl ?_ | ((fail_if_success with_reducible show WQ _ _ _ _ _ _ _); show WQ _ _ _ _ _ _ _) | fail)
    exact rfl
  · repeat' (first | ((with_reducible show WQ _ _ _ _ _ _ _); (first | refine q_seq ?_ | refine q_block ?_ | refine q_reg ?_ | refine q_cond ?_ | refine q_exit ?_ | refine q_ret ?_ | refine q_skip ?_ | refine q_scope ?_ | refine q_draw ?_ | refine q_loop ?_ | refine q_mkrow ?_ | refine q_bindto ?_ | refine q_freeze ?_ | refine q_newrow ?_ | refine q_bindrow ?_)) | refine ks_nrm ?_ | refine ks_exit ?_ | refine ks_ret ?_ | refine kb_hit rfl ?_ | refine kb_exit rfl ?_ | refine kb_nrm ?_ | refine kb_ret ?_ | refine kl_nrm ?_ | refine kl_exit ?_ | refine kl_ret ?_ | refine And.intro (grew_self _) ?_ | refine and_t rfl ?_ | refine and_f rfl ?_ | refine gt_t rfl ?_ | refine gt_f rfl ?_ | refine gd_t rfl ?_ | refine gd_f rfl ?_ | refine pickD ⟨by first | decide | exact Int.NonNeg.mk _, rfl⟩ ?_ | refine And.intro rfl ?_ | ((fail_if_success with_reducible show WQ _ _ _ _ _ _ _); show WQ _ _ _ _ _ _ _) | fail)
    refine and_f (by simp [hl]) ?_
    repeat' (first | ((with_reducible show WQ _ _ _ _ _ _ _); (first | refine q_seq ?_ | refine q_block ?_ | refine q_reg ?_ | refine q_cond ?_ | refine q_exit ?_ | refine q_ret ?_ | refine q_skip ?_ | refine q_scope ?_ | refine q_draw ?_ | refine q_loop ?_ | refine q_mkrow ?_ | refine q_bindto ?_ | refine q_freeze ?_ | refine q_newrow ?_ | refine q_bindrow ?_)) | refine ks_nrm ?_ | refine ks_exit ?_ | refine ks_ret ?_ | refine kb_hit rfl ?_ | refine kb_exit rfl ?_ | refine kb_nrm ?_ | refine kb_ret ?_ | refine kl_nrm ?_ | refine kl_exit ?_ | refine kl_ret ?_ | refine And.intro (grew_self _) ?_ | refine and_t rfl ?_ | refine and_f rfl ?_ | refine gt_t rfl ?_ | refine gt_f rfl ?_ | refine gd_t rfl ?_ | refine gd_f rfl ?_ | refine pickD ⟨by first | decide | exact Int.NonNeg.mk _, rfl⟩ ?_ | refine And.intro rfl ?_ | ((fail_if_success with_reducible show WQ _ _ _ _ _ _ _); show WQ _ _ _ _ _ _ _) | fail)
    refine wq_loop (α := Nat) (fun i => a.length - i) (fun i => [(0, ints a), (1, ints b), (12, i64 a.length), (13, i64 i)]) (fun _ => []) (fun i => i ≤ a.length ∧ a.take i = b.take i) ?_ 0 ⟨Nat.zero_le _, rfl⟩ ?_ rfl
    · rintro i ⟨hi, ht⟩
      repeat' (first | ((with_reducible show WQ _ _ _ _ _ _ _); (first | refine q_seq ?_ | refine q_block ?_ | refine q_reg ?_ | refine q_cond ?_ | refine q_exit ?_ | refine q_ret ?_ | refine q_skip ?_ | refine q_scope ?_ | refine q_draw ?_ | refine q_loop ?_ | refine q_mkrow ?_ | refine q_bindto ?_ | refine q_freeze ?_ | refine q_newrow ?_ | refine q_bindrow ?_)) | refine ks_nrm ?_ | refine ks_exit ?_ | refine ks_ret ?_ | refine kb_hit rfl ?_ | refine kb_exit rfl ?_ | refine kb_nrm ?_ | refine kb_ret ?_ | refine kl_nrm ?_ | refine kl_exit ?_ | refine kl_ret ?_ | refine And.intro (grew_self _) ?_ | refine and_t rfl ?_ | refine and_f rfl ?_ | refine gt_t rfl ?_ | refine gt_f rfl ?_ | refine gd_t rfl ?_ | refine gd_f rfl ?_ | refine pickD ⟨by first | decide | exact Int.NonNeg.mk _, rfl⟩ ?_ | refine And.intro rfl ?_ | ((fail_if_success with_reducible show WQ _ _ _ _ _ _ _); show WQ _ _ _ _ _ _ _) | fail)
      refine And.intro (fun h => ?_) (fun h => ?_)
      · replace h := of_decide_eq_true h
        have hlt : i < a.length := by omega
        have hga : (a.map (D.int .i64))[i]? = some (D.int .i64 (a.getD i 0)) := getK hlt
        have hgb : (b.map (D.int .i64))[i]? = some (D.int .i64 (b.getD i 0)) := getK (by omega)
        repeat' (first | ((with_reducible show WQ _ _ _ _ _ _ _); (first | refine q_seq ?_ | refine q_block ?_ | refine q_reg ?_ | refine q_cond ?_ | refine q_exit ?_ | refine q_ret ?_ | refine q_skip ?_ | refine q_scope ?_ | refine q_draw ?_ | refine q_loop ?_ | refine q_mkrow ?_ | refine q_bindto ?_ | refine q_freeze ?_ | refine q_newrow ?_ | refine q_bindrow ?_)) | refine ks_nrm ?_ | refine ks_exit ?_ | refine ks_ret ?_ | refine kb_hit rfl ?_ | refine kb_exit rfl ?_ | refine kb_nrm ?_ | refine kb_ret ?_ | refine kl_nrm ?_ | refine kl_exit ?_ | refine kl_ret ?_ | refine And.intro (grew_self _) ?_ | refine and_t rfl ?_ | refine and_f rfl ?_ | refine gt_t rfl ?_ | refine gt_f rfl ?_ | refine gd_t rfl ?_ | refine gd_f rfl ?_ | refine pickD (d := D.int .i64 (a.getD i 0)) (And.intro (Int.natCast_nonneg i) hga) ?_ | refine pickD (d := D.int .i64 (b.getD i 0)) (And.intro (Int.natCast_nonneg i) hgb) ?_ | refine pickD ⟨by first | decide | exact Int.NonNeg.mk _, rfl⟩ ?_ | refine And.intro rfl ?_ | ((fail_if_success with_reducible show WQ _ _ _ _ _ _ _); show WQ _ _ _ _ _ _ _) | fail)
        by_cases hx : a.getD i 0 = b.getD i 0
        · refine and_f (by rw [hx]; simp) ?_
          repeat' (first | ((with_reducible show WQ _ _ _ _ _ _ _); (first | refine q_seq ?_ | refine q_block ?_ | refine q_reg ?_ | refine q_cond ?_ | refine q_exit ?_ | refine q_ret ?_ | refine q_skip ?_ | refine q_scope ?_ | refine q_draw ?_ | refine q_loop ?_ | refine q_mkrow ?_ | refine q_bindto ?_ | refine q_freeze ?_ | refine q_newrow ?_ | refine q_bindrow ?_)) | refine ks_nrm ?_ | refine ks_exit ?_ | refine ks_ret ?_ | refine kb_hit rfl ?_ | refine kb_exit rfl ?_ | refine kb_nrm ?_ | refine kb_ret ?_ | refine kl_nrm ?_ | refine kl_exit ?_ | refine kl_ret ?_ | refine And.intro (grew_self _) ?_ | refine and_t rfl ?_ | refine and_f rfl ?_ | refine gt_t rfl ?_ | refine gt_f rfl ?_ | refine gd_t rfl ?_ | refine gd_f rfl ?_ | refine pickD ⟨by first | decide | exact Int.NonNeg.mk _, rfl⟩ ?_ | refine And.intro rfl ?_ | ((fail_if_success with_reducible show WQ _ _ _ _ _ _ _); show WQ _ _ _ _ _ _ _) | fail)
          exact ⟨i + 1, ⟨by omega, take_more hlt (by omega) ht hx⟩, by omega, by rw [i64w (by omega)]; rfl, rfl⟩
        · have e : decide (a = b) = false := decide_eq_false (fun e => hx (by rw [e]))
          rw [e]
          refine and_t (by simp only [hx]; rfl) ?_
          repeat' (first | ((with_reducible show WQ _ _ _ _ _ _ _); (first | refine q_seq ?_ | refine q_block ?_ | refine q_reg ?_ | refine q_cond ?_ | refine q_exit ?_ | refine q_ret ?_ | refine q_skip ?_ | refine q_scope ?_ | refine q_draw ?_ | refine q_loop ?_ | refine q_mkrow ?_ | refine q_bindto ?_ | refine q_freeze ?_ | refine q_newrow ?_ | refine q_bindrow ?_)) | refine ks_nrm ?_ | refine ks_exit ?_ | refine ks_ret ?_ | refine kb_hit rfl ?_ | refine kb_exit rfl ?_ | refine kb_nrm ?_ | refine kb_ret ?_ | refine kl_nrm ?_ | refine kl_exit ?_ | refine kl_ret ?_ | refine And.intro (grew_self _) ?_ | refine and_t rfl ?_ | refine and_f rfl ?_ | refine gt_t rfl ?_ | refine gt_f rfl ?_ | refine gd_t rfl ?_ | refine gd_f rfl ?_ | refine pickD ⟨by first | decide | exact Int.NonNeg.mk _, rfl⟩ ?_ | refine And.intro rfl ?_ | ((fail_if_success with_reducible show WQ _ _ _ _ _ _ _); show WQ _ _ _ _ _ _ _) | fail)
          exact rfl
      · replace h := of_decide_eq_false h
        have e : decide (a = b) = true := decide_eq_true (by
          rw [List.take_of_length_le (by omega), List.take_of_length_le (by omega)] at ht; exact ht)
        rw [e]
        repeat' (first | ((with_reducible show WQ _ _ _ _ _ _ _); (first | refine q_seq ?_ | refine q_block ?_ | refine q_reg ?_ | refine q_cond ?_ | refine q_exit ?_ | refine q_ret ?_ | refine q_skip ?_ | refine q_scope ?_ | refine q_draw ?_ | refine q_loop ?_ | refine q_mkrow ?_ | refine q_bindto ?_ | refine q_freeze ?_ | refine q_newrow ?_ | refine q_bindrow ?_)) | refine ks_nrm ?_ | refine ks_exit ?_ | refine ks_ret ?_ | refine kb_hit rfl ?_ | refine kb_exit rfl ?_ | refine kb_nrm ?_ | refine kb_ret ?_ | refine kl_nrm ?_ | refine kl_exit ?_ | refine kl_ret ?_ | refine And.intro (grew_self _) ?_ | refine and_t rfl ?_ | refine and_f rfl ?_ | refine gt_t rfl ?_ | refine gt_f rfl ?_ | refine gd_t rfl ?_ | refine gd_f rfl ?_ | refine pickD ⟨by first | decide | exact Int.NonNeg.mk _, rfl⟩ ?_ | refine And.intro rfl ?_ | ((fail_if_success with_reducible show WQ _ _ _ _ _ _ _); show WQ _ _ _ _ _ _ _) | fail)
        exact rfl
    · show [_, _, (12, i64 ((a.map (D.int .i64)).length : Int)), _] = _
      rw [hna]; rfl
set_option maxHeartbeats 1000000 in
theorem samed_ev (x y : Nd) (hx : x.kids.length ≤ 9223372036854775807) : evF (pgL fx) n_tree_Same_1 [.d x.D, .d y.D] H = some (boo (sameNd x y), H) := by
  obtain ⟨xk, xt, xv, xks, xf, xe⟩ := x
  obtain ⟨yk, yt, yv, yks, yf, ye⟩ := y
  refine evF_wq t_tree_Same_1 rfl rfl ?_ H
  unfold sameNd
  by_cases c1 : xk = yk
  rotate_left
  · have e : decide (xk = yk) = false := decide_eq_false c1
    simp only [e, Bool.false_and]
    repeat' (first | ((with_reducible show WQ _ _ _ _ _ _ _); (first | refine q_seq ?_ | refine q_block ?_ | refine q_reg ?_ | refine q_cond ?_ | refine q_exit ?_ | refine q_ret ?_ | refine q_skip ?_ | refine q_scope ?_ | refine q_draw ?_ | refine q_loop ?_ | refine q_mkrow ?_ | refine q_bindto ?_ | refine q_freeze ?_ | refine q_newrow ?_ | refine q_bindrow ?_)) | refine ks_nrm ?_ | refine ks_exit ?_ | refine ks_ret ?_ | refine kb_hit rfl ?_ | refine kb_exit rfl ?_ | refine kb_nrm ?_ | refine kb_ret ?_ | refine kl_nrm ?_ | refine kl_exit ?_ | refine kl_ret ?_ | refine And.intro (grew_self _) ?_ | refine and_t rfl ?_ | refine and_f rfl ?_ | refine gt_t rfl ?_ | refine gt_f rfl ?_ | refine gd_t rfl ?_ | refine gd_f rfl ?_ | refine and_t (decide_eq_true (by assumption)) ?_ | refine gt_t (decide_eq_true (by assumption)) ?_ | refine gd_t (decide_eq_true (by assumption)) ?_ | refine and_f (decide_eq_false (by assumption)) ?_ | refine gt_f (decide_eq_false (by assumption)) ?_ | refine gd_f (decide_eq_false (by assumption)) ?_ | refine and_t (by assumption) ?_ | refine and_f (by assumption) ?_ | refine gt_t (by assumption) ?_ | refine gt_f (by assumption) ?_ | refine gd_t (by assumption) ?_ | refine gd_f (by assumption) ?_ | refine pickD ⟨by first | decide | exact Int.NonNeg.mk _, rfl⟩ ?_ | refine And.intro rfl ?_ | ((fail_if_success with_reducible show WQ _ _ _ _ _ _ _); show WQ _ _ _ _ _ _ _) | fail)
    exact rfl
  by_cases c2 : xt = yt
  rotate_left
  · have e : decide (xt = yt) = false := decide_eq_false c2
    simp only [e, Bool.false_and, Bool.and_false]
    repeat' (first | ((with_reducible show WQ _ _ _ _ _ _ _); (first | refine q_seq ?_ | refine q_block ?_ | refine q_reg ?_ | refine q_cond ?_ | refine q_exit ?_ | refine q_ret ?_ | refine q_skip ?_ | refine q_scope ?_ | refine q_draw ?_ | refine q_loop ?_ | refine q_mkrow ?_ | refine q_bindto ?_ | refine q_freeze ?_ | refine q_newrow ?_ | refine q_bindrow ?_)) | refine ks_nrm ?_ | refine ks_exit ?_ | refine ks_ret ?_ | refine kb_hit rfl ?_ | refine kb_exit rfl ?_ | refine kb_nrm ?_ | refine kb_ret ?_ | refine kl_nrm ?_ | refine kl_exit ?_ | refine kl_ret ?_ | refine And.intro (grew_self _) ?_ | refine and_t rfl ?_ | refine and_f rfl ?_ | refine gt_t rfl ?_ | refine gt_f rfl ?_ | refine gd_t rfl ?_ | refine gd_f rfl ?_ | refine and_t (decide_eq_true (by assumption)) ?_ | refine gt_t (decide_eq_true (by assumption)) ?_ | refine gd_t (decide_eq_true (by assumption)) ?_ | refine and_f (decide_eq_false (by assumption)) ?_ | refine gt_f (decide_eq_false (by assumption)) ?_ | refine gd_f (decide_eq_false (by assumption)) ?_ | refine and_t (by assumption) ?_ | refine and_f (by assumption) ?_ | refine gt_t (by assumption) ?_ | refine gt_f (by assumption) ?_ | refine gd_t (by assumption) ?_ | refine gd_f (by assumption) ?_ | refine pickD ⟨by first | decide | exact Int.NonNeg.mk _, rfl⟩ ?_ | refine And.intro rfl ?_ | ((fail_if_success with_reducible show WQ _ _ _ _ _ _ _); show WQ _ _ _ _ _ _ _) | fail)
    exact rfl
  by_cases c3 : xv = yv
  rotate_left
  · have e : decide (xv = yv) = false := decide_eq_false c3
    simp only [e, Bool.false_and, Bool.and_false]
    repeat' (first | ((with_reducible show WQ _ _ _ _ _ _ _); (first | refine q_seq ?_ | refine q_block ?_ | refine q_reg ?_ | refine q_cond ?_ | refine q_exit ?_ | refine q_ret ?_ | refine q_skip ?_ | refine q_scope ?_ | refine q_draw ?_ | refine q_loop ?_ | refine q_mkrow ?_ | refine q_bindto ?_ | refine q_freeze ?_ | refine q_newrow ?_ | refine q_bindrow ?_)) | refine ks_nrm ?_ | refine ks_exit ?_ | refine ks_ret ?_ | refine kb_hit rfl ?_ | refine kb_exit rfl ?_ | refine kb_nrm ?_ | refine kb_ret ?_ | refine kl_nrm ?_ | refine kl_exit ?_ | refine kl_ret ?_ | refine And.intro (grew_self _) ?_ | refine and_t rfl ?_ | refine and_f rfl ?_ | refine gt_t rfl ?_ | refine gt_f rfl ?_ | refine gd_t rfl ?_ | refine gd_f rfl ?_ | refine and_t (decide_eq_true (by assumption)) ?_ | refine gt_t (decide_eq_true (by assumption)) ?_ | refine gd_t (decide_eq_true (by assumption)) ?_ | refine and_f (decide_eq_false (by assumption)) ?_ | refine gt_f (decide_eq_false (by assumption)) ?_ | refine gd_f (decide_eq_false (by assumption)) ?_ | refine and_t (by assumption) ?_ | refine and_f (by assumption) ?_ | refine gt_t (by assumption) ?_ | refine gt_f (by assumption) ?_ | refine gd_t (by assumption) ?_ | refine gd_f (by assumption) ?_ | refine pickD ⟨by first | decide | exact Int.NonNeg.mk _, rfl⟩ ?_ | refine And.intro rfl ?_ | ((fail_if_success with_reducible show WQ _ _ _ _ _ _ _); show WQ _ _ _ _ _ _ _) | fail)
    exact rfl
  have e1 : decide (xk = yk) = true := decide_eq_true c1
  have e2 : decide (xt = yt) = true := decide_eq_true c2
  have e3 : decide (xv = yv) = true := decide_eq_true c3
  simp only [e1, e2, e3, Bool.true_and]
  repeat' (first | ((with_reducible show WQ _ _ _ _ _ _ _); (first | refine q_seq ?_ | refine q_block ?_ | refine q_reg ?_ | refine q_cond ?_ | refine q_exit ?_ | refine q_ret ?_ | refine q_skip ?_ | refine q_scope ?_ | refine q_draw ?_ | refine q_loop ?_ | refine q_mkrow ?_ | refine q_bindto ?_ | refine q_freeze ?_ | refine q_newrow ?_ | refine q_bindrow ?_)) | refine ks_nrm ?_ | refine ks_exit ?_ | refine ks_ret ?_ | refine kb_hit rfl ?_ | refine kb_exit rfl ?_ | refine kb_nrm ?_ | refine kb_ret ?_ | refine kl_nrm ?_ | refine kl_exit ?_ | refine kl_ret ?_ | refine And.intro (grew_self _) ?_ | refine and_t rfl ?_ | refine and_f rfl ?_ | refine gt_t rfl ?_ | refine gt_f rfl ?_ | refine gd_t rfl ?_ | refine gd_f rfl ?_ | refine and_t (decide_eq_true (by assumption)) ?_ | refine gt_t (decide_eq_true (by assumption)) ?_ | refine gd_t (decide_eq_true (by assumption)) ?_ | refine and_f (decide_eq_false (by assumption)) ?_ | refine gt_f (decide_eq_false (by assumption)) ?_ | refine gd_f (decide_eq_false (by assumption)) ?_ | refine and_t (by assumption) ?_ | refine and_f (by assumption) ?_ | refine gt_t (by assumption) ?_ | refine gt_f (by assumption) ?_ | refine gd_t (by assumption) ?_ | refine gd_f (by assumption) ?_ | refine ca (equal_ev _ xks yks hx) ?_ | refine pickD ⟨by first | decide | exact Int.NonNeg.mk _, rfl⟩ ?_ | refine And.intro rfl ?_ | ((fail_if_success with_reducible show WQ _ _ _ _ _ _ _); show WQ _ _ _ _ _ _ _) | fail)
  exact rfl
set_option maxHeartbeats 1000000 in
theorem eqf_ev (a b : List Nd) (ha : a.length ≤ 9223372036854775807) (hk : ∀ x ∈ a, x.kids.length ≤ 9223372036854775807) : evF (pgL fx) n_slices_EqualFunc_api_Node_api_Node_api_Node_api_Node [.d (.sl (a.map Nd.D)), .d (.sl (b.map Nd.D)), .fn n_tree_Same_1 []] H = some (boo (sameT a b), H) := by
  refine evF_wq t_slices_EqualFunc_api_Node_api_Node_api_Node_api_Node rfl rfl ?_ H
  have hna : (a.map Nd.D).length = a.length := List.length_map ..
  have hnb : (b.map Nd.D).length = b.length := List.length_map ..
  by_cases hl : a.length = b.length
  rotate_left
  · rw [sameT_len hl]
    repeat' (first | ((with_reducible show WQ _ _ _ _ _ _ _); (first | refine q_seq ?_ | refine q_block ?_ | refine q_reg ?_ | refine q_cond ?_ | refine q_exit ?_ | refine q_ret ?_ | refine q_skip ?_ | refine q_scope ?_ | refine q_draw ?_ | refine q_loop ?_ | refine q_mkrow ?_ | refine q_bindto ?_ | refine q_freeze ?_ | refine q_newrow ?_ | refine q_bindrow ?_)) | refine ks_nrm ?_ | refine ks_exit ?_ | refine ks_ret ?_ | refine kb_hit rfl ?_ | refine kb_exit rfl ?_ | refine kb_nrm ?_ | refine kb_ret ?_ | refine kl_nrm ?_ | refine kl_exit ?_ | refine kl_ret ?_ | refine And.intro (grew_self _) ?_ | refine and_t rfl ?_ | refine and_f rfl ?_ | refine gt_t rfl ?_ | refine gt_f rfl ?_ | refine gd_t rfl ?_ | refine gd_f rfl ?_ | refine pickD ⟨by first | decide | exact Int.NonNeg.mk _, rfl⟩ ?_ | refine And.intro rfl ?_ | ((fail_if_success with_reducible show WQ _ _ _ _ _ _ _); show WQ _ _ _ _ _ _ _) | fail)
    refine and_t (by simp; omega) ?_
    repeat' (first | ((with_reducible show WQ _ _ _ _ _ _ _); (first | refine q_seq ?_ | refine q_block ?_ | refine q_reg ?_ | refine q_cond ?_ | refine q_exit ?_ | refine q_ret ?_ | refine q_skip ?_ | refine q_scope ?_ | refine q_draw ?_ | refine q_loop ?_ | refine q_mkrow ?_ | refine q_bindto ?_ | refine q_freeze ?_ | refine q_newrow ?_ | refine q_bindrow ?_)) | refine ks_nrm ?_ | refine ks_exit ?_ | refine ks_ret ?_ | refine kb_hit rfl ?_ | refine kb_exit rfl ?_ | refine kb_nrm ?_ | refine kb_ret ?_ | refine kl_nrm ?_ | refine kl_exit ?_ | refine kl_ret ?_ | refine And.intro (grew_self _) ?_ | refine and_t rfl ?_ | refine and_f rfl ?_ | refine gt_t rfl ?_ | refine gt_f rfl ?_ | refine gd_t rfl ?_ | refine gd_f rfl ?_ | refine pickD ⟨by first | decide | exact Int.NonNeg.mk _, rfl⟩ ?_ | refine And.intro rfl ?_ | ((fail_if_success with_reducible show WQ _ _ _ _ _ _ _); show WQ _ _ _ _ _ _ _) | fail)
    exact rfl
  · repeat' (first | ((with_reducible show WQ _ _ _ _ _ _ _); (first | refine q_seq ?_ | refine q_block ?_ | refine q_reg ?_ | refine q_cond ?_ | refine q_exit ?_ | refine q_ret ?_ | refine q_skip ?_ | refine q_scope ?_ | refine q_draw ?_ | refine q_loop ?_ | refine q_mkrow ?_ | refine q_bindto ?_ | refine q_freeze ?_ | refine q_newrow ?_ | refine q_bindrow ?_)) | refine ks_nrm ?_ | refine ks_exit ?_ | refine ks_ret ?_ | refine kb_hit rfl ?_ | refine kb_exit rfl ?_ | refine kb_nrm ?_ | refine kb_ret ?_ | refine kl_nrm ?_ | refine kl_exit ?_ | refine kl_ret ?_ | refine And.intro (grew_self _) ?_ | refine and_t rfl ?_ | refine and_f rfl ?_ | refine gt_t rfl ?_ | refine gt_f rfl ?_ | refine gd_t rfl ?_ | refine gd_f rfl ?_ | refine pickD ⟨by first | decide | exact Int.NonNeg.mk _, rfl⟩ ?_ | refine And.intro rfl ?_ | ((fail_if_success with_reducible show WQ _ _ _ _ _ _ _); show WQ _ _ _ _ _ _ _) | fail)
    refine and_f (by simp [hl]) ?_
    repeat' (first | ((with_reducible show WQ _ _ _ _ _ _ _); (first | refine q_seq ?_ | refine q_block ?_ | refine q_reg ?_ | refine q_cond ?_ | refine q_exit ?_ | refine q_ret ?_ | refine q_skip ?_ | refine q_scope ?_ | refine q_draw ?_ | refine q_loop ?_ | refine q_mkrow ?_ | refine q_bindto ?_ | refine q_freeze ?_ | refine q_newrow ?_ | refine q_bindrow ?_)) | refine ks_nrm ?_ | refine ks_exit ?_ | refine ks_ret ?_ | refine kb_hit rfl ?_ | refine kb_exit rfl ?_ | refine kb_nrm ?_ | refine kb_ret ?_ | refine kl_nrm ?_ | refine kl_exit ?_ | refine kl_ret ?_ | refine And.intro (grew_self _) ?_ | refine and_t rfl ?_ | refine and_f rfl ?_ | refine gt_t rfl ?_ | refine gt_f rfl ?_ | refine gd_t rfl ?_ | refine gd_f rfl ?_ | refine pickD ⟨by first | decide | exact Int.NonNeg.mk _, rfl⟩ ?_ | refine And.intro rfl ?_ | ((fail_if_success with_reducible show WQ _ _ _ _ _ _ _); show WQ _ _ _ _ _ _ _) | fail)
    refine wq_loop (α := Nat) (fun i => a.length - i) (fun i => [(1, .d (.sl (b.map Nd.D))), (2, .fn n_tree_Same_1 []), (15, .d (.sl (a.map Nd.D))), (16, i64 a.length), (17, i64 i)]) (fun _ => []) (fun i => i ≤ a.length ∧ sameT a b = sameT (a.drop i) (b.drop i)) ?_ 0 ⟨Nat.zero_le _, rfl⟩ ?_ rfl
    · rintro i ⟨hi, ht⟩
      repeat' (first | ((with_reducible show WQ _ _ _ _ _ _ _); (first | refine q_seq ?_ | refine q_block ?_ | refine q_reg ?_ | refine q_cond ?_ | refine q_exit ?_ | refine q_ret ?_ | refine q_skip ?_ | refine q_scope ?_ | refine q_draw ?_ | refine q_loop ?_ | refine q_mkrow ?_ | refine q_bindto ?_ | refine q_freeze ?_ | refine q_newrow ?_ | refine q_bindrow ?_)) | refine ks_nrm ?_ | refine ks_exit ?_ | refine ks_ret ?_ | refine kb_hit rfl ?_ | refine kb_exit rfl ?_ | refine kb_nrm ?_ | refine kb_ret ?_ | refine kl_nrm ?_ | refine kl_exit ?_ | refine kl_ret ?_ | refine And.intro (grew_self _) ?_ | refine and_t rfl ?_ | refine and_f rfl ?_ | refine gt_t rfl ?_ | refine gt_f rfl ?_ | refine gd_t rfl ?_ | refine gd_f rfl ?_ | refine pickD ⟨by first | decide | exact Int.NonNeg.mk _, rfl⟩ ?_ | refine And.intro rfl ?_ | ((fail_if_success with_reducible show WQ _ _ _ _ _ _ _); show WQ _ _ _ _ _ _ _) | fail)
      refine And.intro (fun h => ?_) (fun h => ?_)
      · replace h := of_decide_eq_true h
        have hlt : i < a.length := by omega
        have hlb : i < b.length := by omega
        rw [sameT_step hlt hlb] at ht
        have hxk : (nd a i).kids.length ≤ 9223372036854775807 := hk _ (nd_mem hlt)
        have hga : (a.map Nd.D)[i]? = some (nd a i).D := (ndD_at (k := (i : Int)) (by omega) (by omega)).2
        have hgb : (b.map Nd.D)[i]? = some (nd b i).D := (ndD_at (k := (i : Int)) (by omega) (by omega)).2
        revert hga hgb hxk ht
        generalize nd a i = x
        generalize nd b i = y
        obtain ⟨xk, xt, xv, xks, xf, xe⟩ := x
        obtain ⟨yk, yt, yv, yks, yf, ye⟩ := y
        intro ht hxk hga hgb
        repeat' (first | ((with_reducible show WQ _ _ _ _ _ _ _); (first | refine q_seq ?_ | refine q_block ?_ | refine q_reg ?_ | refine q_cond ?_ | refine q_exit ?_ | refine q_ret ?_ | refine q_skip ?_ | refine q_scope ?_ | refine q_draw ?_ | refine q_loop ?_ | refine q_mkrow ?_ | refine q_bindto ?_ | refine q_freeze ?_ | refine q_newrow ?_ | refine q_bindrow ?_)) | refine ks_nrm ?_ | refine ks_exit ?_ | refine ks_ret ?_ | refine kb_hit rfl ?_ | refine kb_exit rfl ?_ | refine kb_nrm ?_ | refine kb_ret ?_ | refine kl_nrm ?_ | refine kl_exit ?_ | refine kl_ret ?_ | refine And.intro (grew_self _) ?_ | refine and_t rfl ?_ | refine and_f rfl ?_ | refine gt_t rfl ?_ | refine gt_f rfl ?_ | refine gd_t rfl ?_ | refine gd_f rfl ?_ | refine pickD (d := Nd.D ⟨xk, xt, xv, xks, xf, xe⟩) (And.intro (Int.natCast_nonneg i) hga) ?_ | refine pickD (d := Nd.D ⟨yk, yt, yv, yks, yf, ye⟩) (And.intro (Int.natCast_nonneg i) hgb) ?_ | refine ca (samed_ev _ ⟨xk, xt, xv, xks, xf, xe⟩ ⟨yk, yt, yv, yks, yf, ye⟩ hxk) ?_ | refine pickD ⟨by first | decide | exact Int.NonNeg.mk _, rfl⟩ ?_ | refine And.intro rfl ?_ | ((fail_if_success with_reducible show WQ _ _ _ _ _ _ _); show WQ _ _ _ _ _ _ _) | fail)
        cases hs : sameNd ⟨xk, xt, xv, xks, xf, xe⟩ ⟨yk, yt, yv, yks, yf, ye⟩ with
        | true =>
          rw [hs, Bool.true_and] at ht
          repeat' (first | ((with_reducible show WQ _ _ _ _ _ _ _); (first | refine q_seq ?_ | refine q_block ?_ | refine q_reg ?_ | refine q_cond ?_ | refine q_exit ?_ | refine q_ret ?_ | refine q_skip ?_ | refine q_scope ?_ | refine q_draw ?_ | refine q_loop ?_ | refine q_mkrow ?_ | refine q_bindto ?_ | refine q_freeze ?_ | refine q_newrow ?_ | refine q_bindrow ?_)) | refine ks_nrm ?_ | refine ks_exit ?_ | refine ks_ret ?_ | refine kb_hit rfl ?_ | refine kb_exit rfl ?_ | refine kb_nrm ?_ | refine kb_ret ?_ | refine kl_nrm ?_ | refine kl_exit ?_ | refine kl_ret ?_ | refine And.intro (grew_self _) ?_ | refine and_t rfl ?_ | refine and_f rfl ?_ | refine gt_t rfl ?_ | refine gt_f rfl ?_ | refine gd_t rfl ?_ | refine gd_f rfl ?_ | refine pickD ⟨by first | decide | exact Int.NonNeg.mk _, rfl⟩ ?_ | refine And.intro rfl ?_ | ((fail_if_success with_reducible show WQ _ _ _ _ _ _ _); show WQ _ _ _ _ _ _ _) | fail)
          exact ⟨i + 1, ⟨by omega, ht⟩, by omega, by rw [i64w (by omega)]; rfl, rfl⟩
        | false =>
          rw [hs, Bool.false_and] at ht
          rw [ht]
          repeat' (first | ((with_reducible show WQ _ _ _ _ _ _ _); (first | refine q_seq ?_ | refine q_block ?_ | refine q_reg ?_ | refine q_cond ?_ | refine q_exit ?_ | refine q_ret ?_ | refine q_skip ?_ | refine q_scope ?_ | refine q_draw ?_ | refine q_loop ?_ | refine q_mkrow ?_ | refine q_bindto ?_ | refine q_freeze ?_ | refine q_newrow ?_ | refine q_bindrow ?_)) | refine ks_nrm ?_ | refine ks_exit ?_ | refine ks_ret ?_ | refine kb_hit rfl ?_ | refine kb_exit rfl ?_ | refine kb_nrm ?_ | refine kb_ret ?_ | refine kl_nrm ?_ | refine kl_exit ?_ | refine kl_ret ?_ | refine And.intro (grew_self _) ?_ | refine and_t rfl ?_ | refine and_f rfl ?_ | refine gt_t rfl ?_ | refine gt_f rfl ?_ | refine gd_t rfl ?_ | refine gd_f rfl ?_ | refine pickD ⟨by first | decide | exact Int.NonNeg.mk _, rfl⟩ ?_ | refine And.intro rfl ?_ | ((fail_if_success with_reducible show WQ _ _ _ _ _ _ _); show WQ _ _ _ _ _ _ _) | fail)
          exact rfl
      · replace h := of_decide_eq_false h
        have e : sameT a b = true := by rw [ht, List.drop_of_length_le (by omega), List.drop_of_length_le (by omega)]; rfl
        rw [e]
        repeat' (first | ((with_reducible show WQ _ _ _ _ _ _ _); (first | refine q_seq ?_ | refine q_block ?_ | refine q_reg ?_ | refine q_cond ?_ | refine q_exit ?_ | refine q_ret ?_ | refine q_skip ?_ | refine q_scope ?_ | refine q_draw ?_ | refine q_loop ?_ | refine q_mkrow ?_ | refine q_bindto ?_ | refine q_freeze ?_ | refine q_newrow ?_ | refine q_bindrow ?_)) | refine ks_nrm ?_ | refine ks_exit ?_ | refine ks_ret ?_ | refine kb_hit rfl ?_ | refine kb_exit rfl ?_ | refine kb_nrm ?_ | refine kb_ret ?_ | refine kl_nrm ?_ | refine kl_exit ?_ | refine kl_ret ?_ | refine And.intro (grew_self _) ?_ | refine and_t rfl ?_ | refine and_f rfl ?_ | refine gt_t rfl ?_ | refine gt_f rfl ?_ | refine gd_t rfl ?_ | refine gd_f rfl ?_ | refine pickD ⟨by first | decide | exact Int.NonNeg.mk _, rfl⟩ ?_ | refine And.intro rfl ?_ | ((fail_if_success with_reducible show WQ _ _ _ _ _ _ _); show WQ _ _ _ _ _ _ _) | fail)
        exact rfl
    · show [_, _, _, (16, i64 ((a.map Nd.D).length : Int)), _] = _
      rw [hna]; rfl
theorem same_ev (a b : List Nd) (hal : a.length ≤ 9223372036854775807) (hak : ∀ x ∈ a, x.kids.length ≤ 9223372036854775807) : evF (pgL fx) n_tree_Same [.d (treeD a), .d (treeD b)] H = some (boo (sameT a b), H) := by
  refine evF_wq t_tree_Same rfl rfl ?_ H
  repeat' (first | ((with_reducible show WQ _ _ _ _ _ _ _); (first | refine q_seq ?_ | refine q_block ?_ | refine q_reg ?_ | refine q_cond ?_ | refine q_exit ?_ | refine q_ret ?_ | refine q_skip ?_ | refine q_scope ?_ | refine q_draw ?_ | refine q_loop ?_ | refine q_mkrow ?_ | refine q_bindto ?_ | refine q_freeze ?_ | refine q_newrow ?_ | refine q_bindrow ?_)) | refine ks_nrm ?_ | refine ks_exit ?_ | refine ks_ret ?_ | refine kb_hit rfl ?_ | refine kb_exit rfl ?_ | refine kb_nrm ?_ | refine kb_ret ?_ | refine kl_nrm ?_ | refine kl_exit ?_ | refine kl_ret ?_ | refine And.intro (grew_self _) ?_ | refine and_t rfl ?_ | refine and_f rfl ?_ | refine gt_t rfl ?_ | refine gt_f rfl ?_ | refine gd_t rfl ?_ | refine gd_f rfl ?_ | refine ca (eqf_ev _ a b hal hak) ?_ | refine pickD ⟨by first | decide | exact Int.NonNeg.mk _, rfl⟩ ?_ | refine And.intro rfl ?_ | ((fail_if_success with_reducible show WQ _ _ _ _ _ _ _); show WQ _ _ _ _ _ _ _) | fail)
  exact rfl
set_option maxHeartbeats 2000000 in
theorem rsame_ev (a b : List Nd) (hal : a.length ≤ 9223372036854775807) (hak : ∀ x ∈ a, x.kids.length ≤ 9223372036854775807) : evF (pgL fx) n_ref13_Same [.d (treeD a), .d (treeD b)] H = some (boo (sameT a b), H) := by
  refine evF_wq t_ref13_Same rfl rfl ?_ H
  have hna : (a.map Nd.D).length = a.length := List.length_map ..
  have hnb : (b.map Nd.D).length = b.length := List.length_map ..
  by_cases hl : a.length = b.length
  rotate_left
  · rw [sameT_len hl]
    repeat' (first | ((with_reducible show WQ _ _ _ _ _ _ _); (first | refine q_seq ?_ | refine q_block ?_ | refine q_reg ?_ | refine q_cond ?_ | refine q_exit ?_ | refine q_ret ?_ | refine q_skip ?_ | refine q_scope ?_ | refine q_draw ?_ | refine q_loop ?_ | refine q_mkrow ?_ | refine q_bindto ?_ | refine q_freeze ?_ | refine q_newrow ?_ | refine q_bindrow ?_)) | refine ks_nrm ?_ | refine ks_exit ?_ | refine ks_ret ?_ | refine kb_hit rfl ?_ | refine kb_exit rfl ?_ | refine kb_nrm ?_ | refine kb_ret ?_ | refine kl_nrm ?_ | refine kl_exit ?_ | refine kl_ret ?_ | refine And.intro (grew_self _) ?_ | refine and_t rfl ?_ | refine and_f rfl ?_ | refine gt_t rfl ?_ | refine gt_f rfl ?_ | refine gd_t rfl ?_ | refine gd_f rfl ?_ | refine pickD ⟨by first | decide | exact Int.NonNeg.mk _, rfl⟩ ?_ | refine And.intro rfl ?_ | ((fail_if_success with_reducible show WQ _ _ _ _ _ _ _); show WQ _ _ _ _ _ _ _) | fail)
    refine and_t (by simp; omega) ?_
    repeat' (first | ((with_reducible show WQ _ _ _ _ _ _ _); (first | refine q_seq ?_ | refine q_block ?_ | refine q_reg ?_ | refine q_cond ?_ | refine q_exit ?_ | refine q_ret ?_ | refine q_skip ?_ | refine q_scope ?_ | refine q_draw ?_ | refine q_loop ?_ | refine q_mkrow ?_ | refine q_bindto ?_ | refine q_freeze ?_ | refine q_newrow ?_ | refine q_bindrow ?_)) | refine ks_nrm ?_ | refine ks_exit ?_ | refine ks_ret ?_ | refine kb_hit rfl ?_ | refine kb_exit rfl ?_ | refine kb_nrm ?_ | refine kb_ret ?_ | refine kl_nrm ?_ | refine kl_exit ?_ | refine kl_ret ?_ | refine And.intro (grew_self _) ?_ | refine and_t rfl ?_ | refine and_f rfl ?_ | refine gt_t rfl ?_ | refine gt_f rfl ?_ | refine gd_t rfl ?_ | refine gd_f rfl ?_ | refine pickD ⟨by first | decide | exact Int.NonNeg.mk _, rfl⟩ ?_ | refine And.intro rfl ?_ | ((fail_if_success with_reducible show WQ _ _ _ _ _ _ _); show WQ _ _ _ _ _ _ _) | fail)
    exact rfl
  · repeat' (first | ((with_reducible show WQ _ _ _ _ _ _ _); (first | refine q_seq ?_ | refine q_block ?_ | refine q_reg ?_ | refine q_cond ?_ | refine q_exit ?_ | refine q_ret ?_ | refine q_skip ?_ | refine q_scope ?_ | refine q_draw ?_ | refine q_loop ?_ | refine q_mkrow ?_ | refine q_bindto ?_ | refine q_freeze ?_ | refine q_newrow ?_ | refine q_bindrow ?_)) | refine ks_nrm ?_ | refine ks_exit ?_ | refine ks_ret ?_ | refine kb_hit rfl ?_ | refine kb_exit rfl ?_ | refine kb_nrm ?_ | refine kb_ret ?_ | refine kl_nrm ?_ | refine kl_exit ?_ | refine kl_ret ?_ | refine And.intro (grew_self _) ?_ | refine and_t rfl ?_ | refine and_f rfl ?_ | refine gt_t rfl ?_ | refine gt_f rfl ?_ | refine gd_t rfl ?_ | refine gd_f rfl ?_ | refine pickD ⟨by first | decide | exact Int.NonNeg.mk _, rfl⟩ ?_ | refine And.intro rfl ?_ | ((fail_if_success with_reducible show WQ _ _ _ _ _ _ _); show WQ _ _ _ _ _ _ _) | fail)
    refine and_f (by simp [hl]) ?_
    repeat' (first | ((with_reducible show WQ _ _ _ _ _ _ _); (first | refine q_seq ?_ | refine q_block ?_ | refine q_reg ?_ | refine q_cond ?_ | refine q_exit ?_ | refine q_ret ?_ | refine q_skip ?_ | refine q_scope ?_ | refine q_draw ?_ | refine q_loop ?_ | refine q_mkrow ?_ | refine q_bindto ?_ | refine q_freeze ?_ | refine q_newrow ?_ | refine q_bindrow ?_)) | refine ks_nrm ?_ | refine ks_exit ?_ | refine ks_ret ?_ | refine kb_hit rfl ?_ | refine kb_exit rfl ?_ | refine kb_nrm ?_ | refine kb_ret ?_ | refine kl_nrm ?_ | refine kl_exit ?_ | refine kl_ret ?_ | refine And.intro (grew_self _) ?_ | refine and_t rfl ?_ | refine and_f rfl ?_ | refine gt_t rfl ?_ | refine gt_f rfl ?_ | refine gd_t rfl ?_ | refine gd_f rfl ?_ | refine pickD ⟨by first | decide | exact Int.NonNeg.mk _, rfl⟩ ?_ | refine And.intro rfl ?_ | ((fail_if_success with_reducible show WQ _ _ _ _ _ _ _); show WQ _ _ _ _ _ _ _) | fail)
    refine wq_loop (α := Nat) (fun i => a.length - i) (fun i => [(3, .ptr 1 0), (17, .d (.sl (a.map Nd.D))), (18, i64 a.length), (19, i64 i)]) (fun _ => [.box [.d (.sl (a.map Nd.D))], .box [.d (.sl (b.map Nd.D))]]) (fun i => i ≤ a.length ∧ sameT a b = sameT (a.drop i) (b.drop i)) ?_ 0 ⟨Nat.zero_le _, rfl⟩ ?_ rfl
    · rintro i ⟨hi, ht⟩
      repeat' (first | ((with_reducible show WQ _ _ _ _ _ _ _); (first | refine q_seq ?_ | refine q_block ?_ | refine q_reg ?_ | refine q_cond ?_ | refine q_exit ?_ | refine q_ret ?_ | refine q_skip ?_ | refine q_scope ?_ | refine q_draw ?_ | refine q_loop ?_ | refine q_mkrow ?_ | refine q_bindto ?_ | refine q_freeze ?_ | refine q_newrow ?_ | refine q_bindrow ?_)) | refine ks_nrm ?_ | refine ks_exit ?_ | refine ks_ret ?_ | refine kb_hit rfl ?_ | refine kb_exit rfl ?_ | refine kb_nrm ?_ | refine kb_ret ?_ | refine kl_nrm ?_ | refine kl_exit ?_ | refine kl_ret ?_ | refine And.intro (grew_self _) ?_ | refine and_t rfl ?_ | refine and_f rfl ?_ | refine gt_t rfl ?_ | refine gt_f rfl ?_ | refine gd_t rfl ?_ | refine gd_f rfl ?_ | refine pickD ⟨by first | decide | exact Int.NonNeg.mk _, rfl⟩ ?_ | refine And.intro rfl ?_ | ((fail_if_success with_reducible show WQ _ _ _ _ _ _ _); show WQ _ _ _ _ _ _ _) | fail)
      refine And.intro (fun h => ?_) (fun h => ?_)
      · replace h := of_decide_eq_true h
        have hlt : i < a.length := by omega
        have hlb : i < b.length := by omega
        rw [sameT_step hlt hlb] at ht
        have hxk : (nd a i).kids.length ≤ 9223372036854775807 := hak _ (nd_mem hlt)
        have hga : (a.map Nd.D)[i]? = some (nd a i).D := (ndD_at (k := (i : Int)) (by omega) (by omega)).2
        have hgb : (b.map Nd.D)[i]? = some (nd b i).D := (ndD_at (k := (i : Int)) (by omega) (by omega)).2
        revert hga hgb hxk ht
        generalize nd a i = x
        generalize nd b i = y
        obtain ⟨xk, xt, xv, xks, xf, xe⟩ := x
        obtain ⟨yk, yt, yv, yks, yf, ye⟩ := y
        intro ht hxk hga hgb
        simp only at hxk
        repeat' (first | ((with_reducible show WQ _ _ _ _ _ _ _); (first | refine q_seq ?_ | refine q_block ?_ | refine q_reg ?_ | refine q_cond ?_ | refine q_exit ?_ | refine q_ret ?_ | refine q_skip ?_ | refine q_scope ?_ | refine q_draw ?_ | refine q_loop ?_ | refine q_mkrow ?_ | refine q_bindto ?_ | refine q_freeze ?_ | refine q_newrow ?_ | refine q_bindrow ?_)) | refine ks_nrm ?_ | refine ks_exit ?_ | refine ks_ret ?_ | refine kb_hit rfl ?_ | refine kb_exit rfl ?_ | refine kb_nrm ?_ | refine kb_ret ?_ | refine kl_nrm ?_ | refine kl_exit ?_ | refine kl_ret ?_ | refine And.intro (grew_self _) ?_ | refine and_t rfl ?_ | refine and_f rfl ?_ | refine gt_t rfl ?_ | refine gt_f rfl ?_ | refine gd_t rfl ?_ | refine gd_f rfl ?_ | refine pickD (d := Nd.D ⟨xk, xt, xv, xks, xf, xe⟩) (And.intro (Int.natCast_nonneg i) hga) ?_ | refine pickD (d := Nd.D ⟨yk, yt, yv, yks, yf, ye⟩) (And.intro (Int.natCast_nonneg i) hgb) ?_ | refine pickD ⟨by first | decide | exact Int.NonNeg.mk _, rfl⟩ ?_ | refine And.intro rfl ?_ | ((fail_if_success with_reducible show WQ _ _ _ _ _ _ _); show WQ _ _ _ _ _ _ _) | fail)
        by_cases c1 : xk = yk
        rotate_left
        · have n1 : (!decide (xk = yk)) = true := by rw [decide_eq_false c1]; rfl
          have hs : sameNd ⟨xk, xt, xv, xks, xf, xe⟩ ⟨yk, yt, yv, yks, yf, ye⟩ = false := by unfold sameNd; rw [decide_eq_false c1]; rfl
          rw [hs, Bool.false_and] at ht
          rw [ht]
          repeat' (first | ((with_reducible show WQ _ _ _ _ _ _ _); (first | refine q_seq ?_ | refine q_block ?_ | refine q_reg ?_ | refine q_cond ?_ | refine q_exit ?_ | refine q_ret ?_ | refine q_skip ?_ | refine q_scope ?_ | refine q_draw ?_ | refine q_loop ?_ | refine q_mkrow ?_ | refine q_bindto ?_ | refine q_freeze ?_ | refine q_newrow ?_ | refine q_bindrow ?_)) | refine ks_nrm ?_ | refine ks_exit ?_ | refine ks_ret ?_ | refine kb_hit rfl ?_ | refine kb_exit rfl ?_ | refine kb_nrm ?_ | refine kb_ret ?_ | refine kl_nrm ?_ | refine kl_exit ?_ | refine kl_ret ?_ | refine And.intro (grew_self _) ?_ | refine and_t rfl ?_ | refine and_f rfl ?_ | refine gt_t rfl ?_ | refine gt_f rfl ?_ | refine gd_t rfl ?_ | refine gd_f rfl ?_ | refine and_t (decide_eq_true (by assumption)) ?_ | refine gt_t (decide_eq_true (by assumption)) ?_ | refine gd_t (decide_eq_true (by assumption)) ?_ | refine and_f (decide_eq_false (by assumption)) ?_ | refine gt_f (decide_eq_false (by assumption)) ?_ | refine gd_f (decide_eq_false (by assumption)) ?_ | refine and_t (by assumption) ?_ | refine and_f (by assumption) ?_ | refine gt_t (by assumption) ?_ | refine gt_f (by assumption) ?_ | refine gd_t (by assumption) ?_ | refine gd_f (by assumption) ?_ | refine pickD ⟨by first | decide | exact Int.NonNeg.mk _, rfl⟩ ?_ | refine And.intro rfl ?_ | ((fail_if_success with_reducible show WQ _ _ _ _ _ _ _); show WQ _ _ _ _ _ _ _) | fail)
          exact rfl
        have n1 : (!decide (xk = yk)) = false := by rw [decide_eq_true c1]; rfl
        by_cases c2 : xt = yt
        rotate_left
        · have n2 : (!decide (xt = yt)) = true := by rw [decide_eq_false c2]; rfl
          have hs : sameNd ⟨xk, xt, xv, xks, xf, xe⟩ ⟨yk, yt, yv, yks, yf, ye⟩ = false := by unfold sameNd; rw [decide_eq_false c2, Bool.and_false]; rfl
          rw [hs, Bool.false_and] at ht
          rw [ht]
          repeat' (first | ((with_reducible show WQ _ _ _ _ _ _ _); (first | refine q_seq ?_ | refine q_block ?_ | refine q_reg ?_ | refine q_cond ?_ | refine q_exit ?_ | refine q_ret ?_ | refine q_skip ?_ | refine q_scope ?_ | refine q_draw ?_ | refine q_loop ?_ | refine q_mkrow ?_ | refine q_bindto ?_ | refine q_freeze ?_ | refine q_newrow ?_ | refine q_bindrow ?_)) | refine ks_nrm ?_ | refine ks_exit ?_ | refine ks_ret ?_ | refine kb_hit rfl ?_ | refine kb_exit rfl ?_ | refine kb_nrm ?_ | refine kb_ret ?_ | refine kl_nrm ?_ | refine kl_exit ?_ | refine kl_ret ?_ | refine And.intro (grew_self _) ?_ | refine and_t rfl ?_ | refine and_f rfl ?_ | refine gt_t rfl ?_ | refine gt_f rfl ?_ | refine gd_t rfl ?_ | refine gd_f rfl ?_ | refine and_t (decide_eq_true (by assumption)) ?_ | refine gt_t (decide_eq_true (by assumption)) ?_ | refine gd_t (decide_eq_true (by assumption)) ?_ | refine and_f (decide_eq_false (by assumption)) ?_ | refine gt_f (decide_eq_false (by assumption)) ?_ | refine gd_f (decide_eq_false (by assumption)) ?_ | refine and_t (by assumption) ?_ | refine and_f (by assumption) ?_ | refine gt_t (by assumption) ?_ | refine gt_f (by assumption) ?_ | refine gd_t (by assumption) ?_ | refine gd_f (by assumption) ?_ | refine pickD ⟨by first | decide | exact Int.NonNeg.mk _, rfl⟩ ?_ | refine And.intro rfl ?_ | ((fail_if_success with_reducible show WQ _ _ _ _ _ _ _); show WQ _ _ _ _ _ _ _) | fail)
          exact rfl
        have n2 : (!decide (xt = yt)) = false := by rw [decide_eq_true c2]; rfl
        by_cases c3 : xv = yv
        rotate_left
        · have n3 : (!decide (xv = yv)) = true := by rw [decide_eq_false c3]; rfl
          have hs : sameNd ⟨xk, xt, xv, xks, xf, xe⟩ ⟨yk, yt, yv, yks, yf, ye⟩ = false := by unfold sameNd; rw [decide_eq_false c3, Bool.and_false]; rfl
          rw [hs, Bool.false_and] at ht
          rw [ht]
          repeat' (first | ((with_reducible show WQ _ _ _ _ _ _ _); (first | refine q_seq ?_ | refine q_block ?_ | refine q_reg ?_ | refine q_cond ?_ | refine q_exit ?_ | refine q_ret ?_ | refine q_skip ?_ | refine q_scope ?_ | refine q_draw ?_ | refine q_loop ?_ | refine q_mkrow ?_ | refine q_bindto ?_ | refine q_freeze ?_ | refine q_newrow ?_ | refine q_bindrow ?_)) | refine ks_nrm ?_ | refine ks_exit ?_ | refine ks_ret ?_ | refine kb_hit rfl ?_ | refine kb_exit rfl ?_ | refine kb_nrm ?_ | refine kb_ret ?_ | refine kl_nrm ?_ | refine kl_exit ?_ | refine kl_ret ?_ | refine And.intro (grew_self _) ?_ | refine and_t rfl ?_ | refine and_f rfl ?_ | refine gt_t rfl ?_ | refine gt_f rfl ?_ | refine gd_t rfl ?_ | refine gd_f rfl ?_ | refine and_t (decide_eq_true (by assumption)) ?_ | refine gt_t (decide_eq_true (by assumption)) ?_ | refine gd_t (decide_eq_true (by assumption)) ?_ | refine and_f (decide_eq_false (by assumption)) ?_ | refine gt_f (decide_eq_false (by assumption)) ?_ | refine gd_f (decide_eq_false (by assumption)) ?_ | refine and_t (by assumption) ?_ | refine and_f (by assumption) ?_ | refine gt_t (by assumption) ?_ | refine gt_f (by assumption) ?_ | refine gd_t (by assumption) ?_ | refine gd_f (by assumption) ?_ | refine pickD ⟨by first | decide | exact Int.NonNeg.mk _, rfl⟩ ?_ | refine And.intro rfl ?_ | ((fail_if_success with_reducible show WQ _ _ _ _ _ _ _); show WQ _ _ _ _ _ _ _) | fail)
          exact rfl
        have n3 : (!decide (xv = yv)) = false := by rw [decide_eq_true c3]; rfl
        by_cases c4 : xks.length = yks.length
        rotate_left
        · have n4 : (!decide (((xks.map (D.int .i64)).length : Int) = ((yks.map (D.int .i64)).length : Int))) = true := by rw [decide_eq_false (by rw [List.length_map, List.length_map]; omega)]; rfl
          have hs : sameNd ⟨xk, xt, xv, xks, xf, xe⟩ ⟨yk, yt, yv, yks, yf, ye⟩ = false := by unfold sameNd; rw [decide_eq_false (fun e : xks = yks => c4 (by rw [e])), Bool.and_false]
          rw [hs, Bool.false_and] at ht
          rw [ht]
          repeat' (first | ((with_reducible show WQ _ _ _ _ _ _ _); (first | refine q_seq ?_ | refine q_block ?_ | refine q_reg ?_ | refine q_cond ?_ | refine q_exit ?_ | refine q_ret ?_ | refine q_skip ?_ | refine q_scope ?_ | refine q_draw ?_ | refine q_loop ?_ | refine q_mkrow ?_ | refine q_bindto ?_ | refine q_freeze ?_ | refine q_newrow ?_ | refine q_bindrow ?_)) | refine ks_nrm ?_ | refine ks_exit ?_ | refine ks_ret ?_ | refine kb_hit rfl ?_ | refine kb_exit rfl ?_ | refine kb_nrm ?_ | refine kb_ret ?_ | refine kl_nrm ?_ | refine kl_exit ?_ | refine kl_ret ?_ | refine And.intro (grew_self _) ?_ | refine and_t rfl ?_ | refine and_f rfl ?_ | refine gt_t rfl ?_ | refine gt_f rfl ?_ | refine gd_t rfl ?_ | refine gd_f rfl ?_ | refine and_t (decide_eq_true (by assumption)) ?_ | refine gt_t (decide_eq_true (by assumption)) ?_ | refine gd_t (decide_eq_true (by assumption)) ?_ | refine and_f (decide_eq_false (by assumption)) ?_ | refine gt_f (decide_eq_false (by assumption)) ?_ | refine gd_f (decide_eq_false (by assumption)) ?_ | refine and_t (by assumption) ?_ | refine and_f (by assumption) ?_ | refine gt_t (by assumption) ?_ | refine gt_f (by assumption) ?_ | refine gd_t (by assumption) ?_ | refine gd_f (by assumption) ?_ | refine pickD ⟨by first | decide | exact Int.NonNeg.mk _, rfl⟩ ?_ | refine And.intro rfl ?_ | ((fail_if_success with_reducible show WQ _ _ _ _ _ _ _); show WQ _ _ _ _ _ _ _) | fail)
          exact rfl
        have n4 : (!decide (((xks.map (D.int .i64)).length : Int) = ((yks.map (D.int .i64)).length : Int))) = false := by rw [decide_eq_true (by rw [List.length_map, List.length_map]; omega)]; rfl
        have hnx : (xks.map (D.int .i64)).length = xks.length := List.length_map ..
        have hny : (yks.map (D.int .i64)).length = yks.length := List.length_map ..
        repeat' (first | ((with_reducible show WQ _ _ _ _ _ _ _); (first | refine q_seq ?_ | refine q_block ?_ | refine q_reg ?_ | refine q_cond ?_ | refine q_exit ?_ | refine q_ret ?_ | refine q_skip ?_ | refine q_scope ?_ | refine q_draw ?_ | refine q_loop ?_ | refine q_mkrow ?_ | refine q_bindto ?_ | refine q_freeze ?_ | refine q_newrow ?_ | refine q_bindrow ?_)) | refine ks_nrm ?_ | refine ks_exit ?_ | refine ks_ret ?_ | refine kb_hit rfl ?_ | refine kb_exit rfl ?_ | refine kb_nrm ?_ | refine kb_ret ?_ | refine kl_nrm ?_ | refine kl_exit ?_ | refine kl_ret ?_ | refine And.intro (grew_self _) ?_ | refine and_t rfl ?_ | refine and_f rfl ?_ | refine gt_t rfl ?_ | refine gt_f rfl ?_ | refine gd_t rfl ?_ | refine gd_f rfl ?_ | refine and_t (decide_eq_true (by assumption)) ?_ | refine gt_t (decide_eq_true (by assumption)) ?_ | refine gd_t (decide_eq_true (by assumption)) ?_ | refine and_f (decide_eq_false (by assumption)) ?_ | refine gt_f (decide_eq_false (by assumption)) ?_ | refine gd_f (decide_eq_false (by assumption)) ?_ | refine and_t (by assumption) ?_ | refine and_f (by assumption) ?_ | refine gt_t (by assumption) ?_ | refine gt_f (by assumption) ?_ | refine gd_t (by assumption) ?_ | refine gd_f (by assumption) ?_ | refine pickD ⟨by first | decide | exact Int.NonNeg.mk _, rfl⟩ ?_ | refine And.intro rfl ?_ | ((fail_if_success with_reducible show WQ _ _ _ _ _ _ _); show WQ _ _ _ _ _ _ _) | fail)
        refine wq_loop (α := Nat) (fun j => xks.length - j) (fun j => [(3, .ptr 1 0), (6, .ptr 2 0), (7, .ptr 3 0), (17, .d (.sl (a.map Nd.D))), (18, i64 a.length), (19, i64 i), (59, i64 xks.length), (60, i64 j)]) (fun _ => [.box [.d (.sl (a.map Nd.D))], .box [.d (.sl (b.map Nd.D))], .box [i64 xk, str xt, i64 xv, ints xks, i64 xf, i64 xe], .box [i64 yk, str yt, i64 yv, ints yks, i64 yf, i64 ye]]) (fun j => j ≤ xks.length ∧ xks.take j = yks.take j) ?_ 0 ⟨Nat.zero_le _, rfl⟩ ?_ rfl
        · rintro j ⟨hj, hjt⟩
          repeat' (first | ((with_reducible show WQ _ _ _ _ _ _ _); (first | refine q_seq ?_ | refine q_block ?_ | refine q_reg ?_ | refine q_cond ?_ | refine q_exit ?_ | refine q_ret ?_ | refine q_skip ?_ | refine q_scope ?_ | refine q_draw ?_ | refine q_loop ?_ | refine q_mkrow ?_ | refine q_bindto ?_ | refine q_freeze ?_ | refine q_newrow ?_ | refine q_bindrow ?_)) | refine ks_nrm ?_ | refine ks_exit ?_ | refine ks_ret ?_ | refine kb_hit rfl ?_ | refine kb_exit rfl ?_ | refine kb_nrm ?_ | refine kb_ret ?_ | refine kl_nrm ?_ | refine kl_exit ?_ | refine kl_ret ?_ | refine And.intro (grew_self _) ?_ | refine and_t rfl ?_ | refine and_f rfl ?_ | refine gt_t rfl ?_ | refine gt_f rfl ?_ | refine gd_t rfl ?_ | refine gd_f rfl ?_ | refine pickD ⟨by first | decide | exact Int.NonNeg.mk _, rfl⟩ ?_ | refine And.intro rfl ?_ | ((fail_if_success with_reducible show WQ _ _ _ _ _ _ _); show WQ _ _ _ _ _ _ _) | fail)
          refine And.intro (fun h => ?_) (fun h => ?_)
          · replace h := of_decide_eq_true h
            have hjl : j < xks.length := by omega
            have hgx : (xks.map (D.int .i64))[j]? = some (D.int .i64 (xks.getD j 0)) := getK hjl
            have hgy : (yks.map (D.int .i64))[j]? = some (D.int .i64 (yks.getD j 0)) := getK (by omega)
            repeat' (first | ((with_reducible show WQ _ _ _ _ _ _ _); (first | refine q_seq ?_ | refine q_block ?_ | refine q_reg ?_ | refine q_cond ?_ | refine q_exit ?_ | refine q_ret ?_ | refine q_skip ?_ | refine q_scope ?_ | refine q_draw ?_ | refine q_loop ?_ | refine q_mkrow ?_ | refine q_bindto ?_ | refine q_freeze ?_ | refine q_newrow ?_ | refine q_bindrow ?_)) | refine ks_nrm ?_ | refine ks_exit ?_ | refine ks_ret ?_ | refine kb_hit rfl ?_ | refine kb_exit rfl ?_ | refine kb_nrm ?_ | refine kb_ret ?_ | refine kl_nrm ?_ | refine kl_exit ?_ | refine kl_ret ?_ | refine And.intro (grew_self _) ?_ | refine and_t rfl ?_ | refine and_f rfl ?_ | refine gt_t rfl ?_ | refine gt_f rfl ?_ | refine gd_t rfl ?_ | refine gd_f rfl ?_ | refine pickD (d := D.int .i64 (xks.getD j 0)) (And.intro (Int.natCast_nonneg j) hgx) ?_ | refine pickD (d := D.int .i64 (yks.getD j 0)) (And.intro (Int.natCast_nonneg j) hgy) ?_ | refine pickD ⟨by first | decide | exact Int.NonNeg.mk _, rfl⟩ ?_ | refine And.intro rfl ?_ | ((fail_if_success with_reducible show WQ _ _ _ _ _ _ _); show WQ _ _ _ _ _ _ _) | fail)
            by_cases hx : xks.getD j 0 = yks.getD j 0
            · refine and_f (by rw [hx]; simp) ?_
              repeat' (first | ((with_reducible show WQ _ _ _ _ _ _ _); (first | refine q_seq ?_ | refine q_block ?_ | refine q_reg ?_ | refine q_cond ?_ | refine q_exit ?_ | refine q_ret ?_ | refine q_skip ?_ | refine q_scope ?_ | refine q_draw ?_ | refine q_loop ?_ | refine q_mkrow ?_ | refine q_bindto ?_ | refine q_freeze ?_ | refine q_newrow ?_ | refine q_bindrow ?_)) | refine ks_nrm ?_ | refine ks_exit ?_ | refine ks_ret ?_ | refine kb_hit rfl ?_ | refine kb_exit rfl ?_ | refine kb_nrm ?_ | refine kb_ret ?_ | refine kl_nrm ?_ | refine kl_exit ?_ | refine kl_ret ?_ | refine And.intro (grew_self _) ?_ | refine and_t rfl ?_ | refine and_f rfl ?_ | refine gt_t rfl ?_ | refine gt_f rfl ?_ | refine gd_t rfl ?_ | refine gd_f rfl ?_ | refine pickD ⟨by first | decide | exact Int.NonNeg.mk _, rfl⟩ ?_ | refine And.intro rfl ?_ | ((fail_if_success with_reducible show WQ _ _ _ _ _ _ _); show WQ _ _ _ _ _ _ _) | fail)
              exact ⟨j + 1, ⟨by omega, take_more hjl (by omega) hjt hx⟩, by omega, by rw [i64w (by omega)]; rfl, rfl⟩
            · have hs : sameNd ⟨xk, xt, xv, xks, xf, xe⟩ ⟨yk, yt, yv, yks, yf, ye⟩ = false := by unfold sameNd; rw [decide_eq_false (fun e : xks = yks => hx (by rw [e])), Bool.and_false]
              rw [hs, Bool.false_and] at ht
              rw [ht]
              refine and_t (by simp only [hx]; rfl) ?_
              repeat' (first | ((with_reducible show WQ _ _ _ _ _ _ _); (first | refine q_seq ?_ | refine q_block ?_ | refine q_reg ?_ | refine q_cond ?_ | refine q_exit ?_ | refine q_ret ?_ | refine q_skip ?_ | refine q_scope ?_ | refine q_draw ?_ | refine q_loop ?_ | refine q_mkrow ?_ | refine q_bindto ?_ | refine q_freeze ?_ | refine q_newrow ?_ | refine q_bindrow ?_)) | refine ks_nrm ?_ | refine ks_exit ?_ | refine ks_ret ?_ | refine kb_hit rfl ?_ | refine kb_exit rfl ?_ | refine kb_nrm ?_ | refine kb_ret ?_ | refine kl_nrm ?_ | refine kl_exit ?_ | refine kl_ret ?_ | refine And.intro (grew_self _) ?_ | refine and_t rfl ?_ | refine and_f rfl ?_ | refine gt_t rfl ?_ | refine gt_f rfl ?_ | refine gd_t rfl ?_ | refine gd_f rfl ?_ | refine pickD ⟨by first | decide | exact Int.NonNeg.mk _, rfl⟩ ?_ | refine And.intro rfl ?_ | ((fail_if_success with_reducible show WQ _ _ _ _ _ _ _); show WQ _ _ _ _ _ _ _) | fail)
              exact rfl
          · replace h := of_decide_eq_false h
            have he : xks = yks := by rw [List.take_of_length_le (by omega), List.take_of_length_le (by omega)] at hjt; exact hjt
            have hs : sameNd ⟨xk, xt, xv, xks, xf, xe⟩ ⟨yk, yt, yv, yks, yf, ye⟩ = true := by unfold sameNd; rw [decide_eq_true c1, decide_eq_true c2, decide_eq_true c3, decide_eq_true he]; rfl
            rw [hs, Bool.true_and] at ht
            repeat' (first | ((with_reducible show WQ _ _ _ _ _ _ _); (first | refine q_seq ?_ | refine q_block ?_ | refine q_reg ?_ | refine q_cond ?_ | refine q_exit ?_ | refine q_ret ?_ | refine q_skip ?_ | refine q_scope ?_ | refine q_draw ?_ | refine q_loop ?_ | refine q_mkrow ?_ | refine q_bindto ?_ | refine q_freeze ?_ | refine q_newrow ?_ | refine q_bindrow ?_)) | refine ks_nrm ?_ | refine ks_exit ?_ | refine ks_ret ?_ | refine kb_hit rfl ?_ | refine kb_exit rfl ?_ | refine kb_nrm ?_ | refine kb_ret ?_ | refine kl_nrm ?_ | refine kl_exit ?_ | refine kl_ret ?_ | refine And.intro (grew_self _) ?_ | refine and_t rfl ?_ | refine and_f rfl ?_ | refine gt_t rfl ?_ | refine gt_f rfl ?_ | refine gd_t rfl ?_ | refine gd_f rfl ?_ | refine pickD ⟨by first | decide | exact Int.NonNeg.mk _, rfl⟩ ?_ | refine And.intro rfl ?_ | ((fail_if_success with_reducible show WQ _ _ _ _ _ _ _); show WQ _ _ _ _ _ _ _) | fail)
            exact ⟨i + 1, ⟨by omega, ht⟩, by omega, by rw [i64w (by omega)]; rfl, rfl⟩
        · show [_, _, _, _, _, _, (59, i64 ((xks.map (D.int .i64)).length : Int)), _] = _
          rw [hnx]; rfl
      · replace h := of_decide_eq_false h
        have e : sameT a b = true := by rw [ht, List.drop_of_length_le (by omega), List.drop_of_length_le (by omega)]; rfl
        rw [e]
        repeat' (first | ((with_reducible show WQ _ _ _ _ _ _ _); (first | refine q_seq ?_ | refine q_block ?_ | refine q_reg ?_ | refine q_cond ?_ | refine q_exit ?_ | refine q_ret ?_ | refine q_skip ?_ | refine q_scope ?_ | refine q_draw ?_ | refine q_loop ?_ | refine q_mkrow ?_ | refine q_bindto ?_ | refine q_freeze ?_ | refine q_newrow ?_ | refine q_bindrow ?_)) | refine ks_nrm ?_ | refine ks_exit ?_ | refine ks_ret ?_ | refine kb_hit rfl ?_ | refine kb_exit rfl ?_ | refine kb_nrm ?_ | refine kb_ret ?_ | refine kl_nrm ?_ | refine kl_exit ?_ | refine kl_ret ?_ | refine And.intro (grew_self _) ?_ | refine and_t rfl ?_ | refine and_f rfl ?_ | refine gt_t rfl ?_ | refine gt_f rfl ?_ | refine gd_t rfl ?_ | refine gd_f rfl ?_ | refine pickD ⟨by first | decide | exact Int.NonNeg.mk _, rfl⟩ ?_ | refine And.intro rfl ?_ | ((fail_if_success with_reducible show WQ _ _ _ _ _ _ _); show WQ _ _ _ _ _ _ _) | fail)
        exact rfl
    · show [_, _, (18, i64 ((a.map Nd.D).length : Int)), _] = _
      rw [hna]; rfl

end
end Go.Vm.Trd
/- The laws: two trees, the parents. -/
namespace Go.Vm.Trd
open Go.Vm.Tp
set_option maxRecDepth 10000
set_option linter.unusedSimpArgs false
section
variable {fx : Nat → Option Obj} (H : Hp)
theorem lawsames_ev (a b : List Nd) (hal : a.length ≤ 9223372036854775807) (hak : ∀ x ∈ a, x.kids.length ≤ 9223372036854775807) : evF (pgL fx) n_law13_TreeSames [.d (treeD a), .d (treeD b)] H = some (boo true, H) := by
  refine evF_wq t_law13_TreeSames rfl rfl ?_ H
  have h1 := fun H => same_ev (fx := fx) H a b hal hak
  have h2 := fun H => rsame_ev (fx := fx) H a b hal hak
  have h3 := fun H => same_ev (fx := fx) H a a hal hak
  rw [same_refl] at h3
  revert h1 h2
  generalize sameT a b = s
  intro h1 h2
  cases s <;> (repeat' (first | ((with_reducible show WQ _ _ _ _ _ _ _); (first | refine q_seq ?_ | refine q_block ?_ | refine q_reg ?_ | refine q_cond ?_ | refine q_exit ?_ | refine q_ret ?_ | refine q_skip ?_ | refine q_scope ?_ | refine q_draw ?_ | refine q_loop ?_ | refine q_mkrow ?_ | refine q_bindto ?_ | refine q_freeze ?_ | refine q_newrow ?_ | refine q_bindrow ?_)) | refine ks_nrm ?_ | refine ks_exit ?_ | refine ks_ret ?_ | refine kb_hit rfl ?_ | refine kb_exit rfl ?_ | refine kb_nrm ?_ | refine kb_ret ?_ | refine kl_nrm ?_ | refine kl_exit ?_ | refine kl_ret ?_ | refine And.intro (grew_self _) ?_ | refine and_t rfl ?_ | refine and_f rfl ?_ | refine gt_t rfl ?_ | refine gt_f rfl ?_ | refine gd_t rfl ?_ | refine gd_f rfl ?_ | refine ca (h1 _) ?_ | refine ca (h2 _) ?_ | refine ca (h3 _) ?_ | refine ca (small_ev _) ?_ | refine ⟨_, _, rfl, ?_⟩ | refine pickD ⟨by first | decide | exact Int.NonNeg.mk _, rfl⟩ ?_ | refine And.intro rfl ?_ | ((fail_if_success with_reducible show WQ _ _ _ _ _ _ _); show WQ _ _ _ _ _ _ _) | fail))
  all_goals exact rfl
set_option maxHeartbeats 1000000 in
theorem lawkids_ev (t : List Nd) (hf : Fine t) : evF (pgL fx) n_law13_TreeKids [.d (treeD t)] H = some (boo true, H) := by
  refine evF_wq t_law13_TreeKids rfl rfl ?_ H
  have htl := hf.len
  have hnl : (t.map Nd.D).length = t.length := List.length_map ..
  repeat' (first | ((with_reducible show WQ _ _ _ _ _ _ _); (first | refine q_seq ?_ | refine q_block ?_ | refine q_reg ?_ | refine q_cond ?_ | refine q_exit ?_ | refine q_ret ?_ | refine q_skip ?_ | refine q_scope ?_ | refine q_draw ?_ | refine q_loop ?_ | refine q_mkrow ?_ | refine q_bindto ?_ | refine q_freeze ?_ | refine q_newrow ?_ | refine q_bindrow ?_)) | refine ks_nrm ?_ | refine ks_exit ?_ | refine ks_ret ?_ | refine kb_hit rfl ?_ | refine kb_exit rfl ?_ | refine kb_nrm ?_ | refine kb_ret ?_ | refine kl_nrm ?_ | refine kl_exit ?_ | refine kl_ret ?_ | refine And.intro (grew_self _) ?_ | refine and_t rfl ?_ | refine and_f rfl ?_ | refine gt_t rfl ?_ | refine gt_f rfl ?_ | refine gd_t rfl ?_ | refine gd_f rfl ?_ | refine ca (par_ev _ t hf) ?_ | refine pickD ⟨by first | decide | exact Int.NonNeg.mk _, rfl⟩ ?_ | refine And.intro rfl ?_ | ((fail_if_success with_reducible show WQ _ _ _ _ _ _ _); show WQ _ _ _ _ _ _ _) | fail)
  cases hc : checkB t with
  | false =>
    have e : parA t = ([], 3) := by unfold parA; rw [hc]; rfl
    rw [e]
    repeat' (first | ((with_reducible show WQ _ _ _ _ _ _ _); (first | refine q_seq ?_ | refine q_block ?_ | refine q_reg ?_ | refine q_cond ?_ | refine q_exit ?_ | refine q_ret ?_ | refine q_skip ?_ | refine q_scope ?_ | refine q_draw ?_ | refine q_loop ?_ | refine q_mkrow ?_ | refine q_bindto ?_ | refine q_freeze ?_ | refine q_newrow ?_ | refine q_bindrow ?_)) | refine ks_nrm ?_ | refine ks_exit ?_ | refine ks_ret ?_ | refine kb_hit rfl ?_ | refine kb_exit rfl ?_ | refine kb_nrm ?_ | refine kb_ret ?_ | refine kl_nrm ?_ | refine kl_exit ?_ | refine kl_ret ?_ | refine And.intro (grew_self _) ?_ | refine and_t rfl ?_ | refine and_f rfl ?_ | refine gt_t rfl ?_ | refine gt_f rfl ?_ | refine gd_t rfl ?_ | refine gd_f rfl ?_ | refine ca (small_ev _) ?_ | refine pickD ⟨by first | decide | exact Int.NonNeg.mk _, rfl⟩ ?_ | refine And.intro rfl ?_ | ((fail_if_success with_reducible show WQ _ _ _ _ _ _ _); show WQ _ _ _ _ _ _ _) | fail)
    exact rfl
  | true =>
    have e : parA t = (upT t, 0) := by unfold parA; rw [hc]; rfl
    rw [e]
    clear e
    obtain ⟨up, hT⟩ := treeOk_of hc
    have h1 := hT.lo
    have h2 := hT.hi
    have hlen := hT.uplen
    rw [hT.upT]
    have hul : (up.map (D.int .i64)).length = up.length := List.length_map ..
    repeat' (first | ((with_reducible show WQ _ _ _ _ _ _ _); (first | refine q_seq ?_ | refine q_block ?_ | refine q_reg ?_ | refine q_cond ?_ | refine q_exit ?_ | refine q_ret ?_ | refine q_skip ?_ | refine q_scope ?_ | refine q_draw ?_ | refine q_loop ?_ | refine q_mkrow ?_ | refine q_bindto ?_ | refine q_freeze ?_ | refine q_newrow ?_ | refine q_bindrow ?_)) | refine ks_nrm ?_ | refine ks_exit ?_ | refine ks_ret ?_ | refine kb_hit rfl ?_ | refine kb_exit rfl ?_ | refine kb_nrm ?_ | refine kb_ret ?_ | refine kl_nrm ?_ | refine kl_exit ?_ | refine kl_ret ?_ | refine And.intro (grew_self _) ?_ | refine and_t rfl ?_ | refine and_f rfl ?_ | refine gt_t rfl ?_ | refine gt_f rfl ?_ | refine gd_t rfl ?_ | refine gd_f rfl ?_ | refine pickD ⟨by first | decide | exact Int.NonNeg.mk _, rfl⟩ ?_ | refine And.intro rfl ?_ | ((fail_if_success with_reducible show WQ _ _ _ _ _ _ _); show WQ _ _ _ _ _ _ _) | fail)
    refine and_f (by rw [hul, hnl, hlen]; simp) ?_
    repeat' (first | ((with_reducible show WQ _ _ _ _ _ _ _); (first | refine q_seq ?_ | refine q_block ?_ | refine q_reg ?_ | refine q_cond ?_ | refine q_exit ?_ | refine q_ret ?_ | refine q_skip ?_ | refine q_scope ?_ | refine q_draw ?_ | refine q_loop ?_ | refine q_mkrow ?_ | refine q_bindto ?_ | refine q_freeze ?_ | refine q_newrow ?_ | refine q_bindrow ?_)) | refine ks_nrm ?_ | refine ks_exit ?_ | refine ks_ret ?_ | refine kb_hit rfl ?_ | refine kb_exit rfl ?_ | refine kb_nrm ?_ | refine kb_ret ?_ | refine kl_nrm ?_ | refine kl_exit ?_ | refine kl_ret ?_ | refine And.intro (grew_self _) ?_ | refine and_t rfl ?_ | refine and_f rfl ?_ | refine gt_t rfl ?_ | refine gt_f rfl ?_ | refine gd_t rfl ?_ | refine gd_f rfl ?_ | refine pickD ⟨by first | decide | exact Int.NonNeg.mk _, rfl⟩ ?_ | refine And.intro rfl ?_ | ((fail_if_success with_reducible show WQ _ _ _ _ _ _ _); show WQ _ _ _ _ _ _ _) | fail)
    refine wq_loop (α := Nat) (fun i => up.length - i) (fun i => [(1, .ptr 0 0), (3, ints up), (28, ints up), (29, i64 up.length), (30, i64 i)]) (fun _ => [.box [.d (.sl (t.map Nd.D))]]) (fun i => i ≤ up.length) ?_ 0 (Nat.zero_le _) ?_ rfl
    · intro i hi
      repeat' (first | ((with_reducible show WQ _ _ _ _ _ _ _); (first | refine q_seq ?_ | refine q_block ?_ | refine q_reg ?_ | refine q_cond ?_ | refine q_exit ?_ | refine q_ret ?_ | refine q_skip ?_ | refine q_scope ?_ | refine q_draw ?_ | refine q_loop ?_ | refine q_mkrow ?_ | refine q_bindto ?_ | refine q_freeze ?_ | refine q_newrow ?_ | refine q_bindrow ?_)) | refine ks_nrm ?_ | refine ks_exit ?_ | refine ks_ret ?_ | refine kb_hit rfl ?_ | refine kb_exit rfl ?_ | refine kb_nrm ?_ | refine kb_ret ?_ | refine kl_nrm ?_ | refine kl_exit ?_ | refine kl_ret ?_ | refine And.intro (grew_self _) ?_ | refine and_t rfl ?_ | refine and_f rfl ?_ | refine gt_t rfl ?_ | refine gt_f rfl ?_ | refine gd_t rfl ?_ | refine gd_f rfl ?_ | refine pickD ⟨by first | decide | exact Int.NonNeg.mk _, rfl⟩ ?_ | refine And.intro rfl ?_ | ((fail_if_success with_reducible show WQ _ _ _ _ _ _ _); show WQ _ _ _ _ _ _ _) | fail)
      refine And.intro (fun h => ?_) (fun h => ?_)
      · replace h := of_decide_eq_true h
        have hlt : i < up.length := by omega
        have hg : (up.map (D.int .i64))[i]? = some (D.int .i64 (up.getD i (-1))) := by rw [List.getElem?_map, get_getD hlt (-1)]; rfl
        have hr := hT.rng i (by omega)
        repeat' (first | ((with_reducible show WQ _ _ _ _ _ _ _); (first | refine q_seq ?_ | refine q_block ?_ | refine q_reg ?_ | refine q_cond ?_ | refine q_exit ?_ | refine q_ret ?_ | refine q_skip ?_ | refine q_scope ?_ | refine q_draw ?_ | refine q_loop ?_ | refine q_mkrow ?_ | refine q_bindto ?_ | refine q_freeze ?_ | refine q_newrow ?_ | refine q_bindrow ?_)) | refine ks_nrm ?_ | refine ks_exit ?_ | refine ks_ret ?_ | refine kb_hit rfl ?_ | refine kb_exit rfl ?_ | refine kb_nrm ?_ | refine kb_ret ?_ | refine kl_nrm ?_ | refine kl_exit ?_ | refine kl_ret ?_ | refine And.intro (grew_self _) ?_ | refine and_t rfl ?_ | refine and_f rfl ?_ | refine gt_t rfl ?_ | refine gt_f rfl ?_ | refine gd_t rfl ?_ | refine gd_f rfl ?_ | refine pickD (d := D.int .i64 (up.getD i (-1))) (And.intro (Int.natCast_nonneg i) hg) ?_ | refine pickD ⟨by first | decide | exact Int.NonNeg.mk _, rfl⟩ ?_ | refine And.intro rfl ?_ | ((fail_if_success with_reducible show WQ _ _ _ _ _ _ _); show WQ _ _ _ _ _ _ _) | fail)
        have hw : IntKind.i64.wrap (((up.map (D.int .i64)).length : Int) - 1) = (up.length : Int) - 1 := by rw [hul, i64w (by omega)]
        have ee : (!(decide (up.getD i (-1) = -1) == decide ((i : Int) = IntKind.i64.wrap (((up.map (D.int .i64)).length : Int) - 1)))) = false := by
          rw [hw]
          by_cases hl : i + 1 = up.length
          · have e1 : up.getD i (-1) = -1 := by have := hT.lastV; rw [← this]; congr 1; omega
            rw [decide_eq_true e1, decide_eq_true (by omega)]; rfl
          · have := hT.inner i (by omega)
            rw [decide_eq_false (by omega), decide_eq_false (by omega)]; rfl
        by_cases hk : 0 ≤ up.getD i (-1)
        · have ha := (hT.above i hk).1
          repeat' (first | ((with_reducible show WQ _ _ _ _ _ _ _); (first | refine q_seq ?_ | refine q_block ?_ | refine q_reg ?_ | refine q_cond ?_ | refine q_exit ?_ | refine q_ret ?_ | refine q_skip ?_ | refine q_scope ?_ | refine q_draw ?_ | refine q_loop ?_ | refine q_mkrow ?_ | refine q_bindto ?_ | refine q_freeze ?_ | refine q_newrow ?_ | refine q_bindrow ?_)) | refine ks_nrm ?_ | refine ks_exit ?_ | refine ks_ret ?_ | refine kb_hit rfl ?_ | refine kb_exit rfl ?_ | refine kb_nrm ?_ | refine kb_ret ?_ | refine kl_nrm ?_ | refine kl_exit ?_ | refine kl_ret ?_ | refine And.intro (grew_self _) ?_ | refine and_t rfl ?_ | refine and_f rfl ?_ | refine gt_t rfl ?_ | refine gt_f rfl ?_ | refine gd_t rfl ?_ | refine gd_f rfl ?_ | refine ⟨_, _, rfl, ?_⟩ | refine and_t (by assumption) ?_ | refine and_f (by assumption) ?_ | refine gt_t (by assumption) ?_ | refine gt_f (by assumption) ?_ | refine gd_t (by assumption) ?_ | refine gd_f (by assumption) ?_ | refine and_t (decide_eq_true (by omega)) ?_ | refine gt_t (decide_eq_true (by omega)) ?_ | refine gd_t (decide_eq_true (by omega)) ?_ | refine and_f (decide_eq_false (by omega)) ?_ | refine gt_f (decide_eq_false (by omega)) ?_ | refine gd_f (decide_eq_false (by omega)) ?_ | refine pickD ⟨by first | decide | exact Int.NonNeg.mk _, rfl⟩ ?_ | refine And.intro rfl ?_ | ((fail_if_success with_reducible show WQ _ _ _ _ _ _ _); show WQ _ _ _ _ _ _ _) | fail)
          exact ⟨i + 1, by omega, by omega, by rw [i64w (by omega)]; rfl, rfl⟩
        · repeat' (first | ((with_reducible show WQ _ _ _ _ _ _ _); (first | refine q_seq ?_ | refine q_block ?_ | refine q_reg ?_ | refine q_cond ?_ | refine q_exit ?_ | refine q_ret ?_ | refine q_skip ?_ | refine q_scope ?_ | refine q_draw ?_ | refine q_loop ?_ | refine q_mkrow ?_ | refine q_bindto ?_ | refine q_freeze ?_ | refine q_newrow ?_ | refine q_bindrow ?_)) | refine ks_nrm ?_ | refine ks_exit ?_ | refine ks_ret ?_ | refine kb_hit rfl ?_ | refine kb_exit rfl ?_ | refine kb_nrm ?_ | refine kb_ret ?_ | refine kl_nrm ?_ | refine kl_exit ?_ | refine kl_ret ?_ | refine And.intro (grew_self _) ?_ | refine and_t rfl ?_ | refine and_f rfl ?_ | refine gt_t rfl ?_ | refine gt_f rfl ?_ | refine gd_t rfl ?_ | refine gd_f rfl ?_ | refine ⟨_, _, rfl, ?_⟩ | refine and_t (by assumption) ?_ | refine and_f (by assumption) ?_ | refine gt_t (by assumption) ?_ | refine gt_f (by assumption) ?_ | refine gd_t (by assumption) ?_ | refine gd_f (by assumption) ?_ | refine and_t (decide_eq_true (by omega)) ?_ | refine gt_t (decide_eq_true (by omega)) ?_ | refine gd_t (decide_eq_true (by omega)) ?_ | refine and_f (decide_eq_false (by omega)) ?_ | refine gt_f (decide_eq_false (by omega)) ?_ | refine gd_f (decide_eq_false (by omega)) ?_ | refine pickD ⟨by first | decide | exact Int.NonNeg.mk _, rfl⟩ ?_ | refine And.intro rfl ?_ | ((fail_if_success with_reducible show WQ _ _ _ _ _ _ _); show WQ _ _ _ _ _ _ _) | fail)
          exact ⟨i + 1, by omega, by omega, by rw [i64w (by omega)]; rfl, rfl⟩
      · replace h := of_decide_eq_false h
        have hw : IntKind.i64.wrap (((t.map Nd.D).length : Int) - 1) = ((t.length - 1 : Nat) : Int) := by rw [hnl, i64w (by omega)]; omega
        have es : subA t ((t.length - 1 : Nat) : Int) = (t, 0) := by
          unfold subA
          rw [if_pos hc, if_neg (by omega), Int.toNat_natCast, hT.upT, subT_last hT]
        have hs := fun H => sub_ev (fx := fx) H t hf ((t.length - 1 : Nat) : Int) ⟨by omega, by omega⟩
        rw [es, ← hw] at hs
        repeat' (first | ((with_reducible show WQ _ _ _ _ _ _ _); (first | refine q_seq ?_ | refine q_block ?_ | refine q_reg ?_ | refine q_cond ?_ | refine q_exit ?_ | refine q_ret ?_ | refine q_skip ?_ | refine q_scope ?_ | refine q_draw ?_ | refine q_loop ?_ | refine q_mkrow ?_ | refine q_bindto ?_ | refine q_freeze ?_ | refine q_newrow ?_ | refine q_bindrow ?_)) | refine ks_nrm ?_ | refine ks_exit ?_ | refine ks_ret ?_ | refine kb_hit rfl ?_ | refine kb_exit rfl ?_ | refine kb_nrm ?_ | refine kb_ret ?_ | refine kl_nrm ?_ | refine kl_exit ?_ | refine kl_ret ?_ | refine And.intro (grew_self _) ?_ | refine and_t rfl ?_ | refine and_f rfl ?_ | refine gt_t rfl ?_ | refine gt_f rfl ?_ | refine gd_t rfl ?_ | refine gd_f rfl ?_ | refine ca (hs _) ?_ | refine ca (tree_self _ t hf) ?_ | refine ca (small_ev _) ?_ | refine pickD ⟨by first | decide | exact Int.NonNeg.mk _, rfl⟩ ?_ | refine And.intro rfl ?_ | ((fail_if_success with_reducible show WQ _ _ _ _ _ _ _); show WQ _ _ _ _ _ _ _) | fail)
        exact rfl
    · show [_, _, _, (29, i64 ((up.map (D.int .i64)).length : Int)), _] = _
      rw [hul]; rfl

end
end Go.Vm.Trd
/- The law: places say nothing. -/
namespace Go.Vm.Trd
open Go.Vm.Tp
set_option maxRecDepth 10000
set_option linter.unusedSimpArgs false
theorem mv_fine {t : List Nd} (hf : Fine t) {b : Int} (h0 : 0 ≤ b) (h1 : b ≤ 1048576) (hs : ∀ x ∈ t, x.f ≤ 1099511627776 ∧ x.e ≤ 1099511627776) : Fine (mvT b t) := by
  have key : ∀ y ∈ mvT b t, ∃ x ∈ t, y = mvNd b x := fun y hy => by
    obtain ⟨x, hx, e⟩ := List.mem_map.1 hy
    exact ⟨x, hx, e.symm⟩
  constructor
  · unfold mvT; rw [List.length_map]; exact hf.len
  · intro y hy; obtain ⟨x, hx, rfl⟩ := key y hy; exact hf.txt x hx
  · intro y hy; obtain ⟨x, hx, rfl⟩ := key y hy; exact hf.kid x hx
  · intro y hy; obtain ⟨x, hx, rfl⟩ := key y hy; exact hf.ik x hx
  · intro y hy; obtain ⟨x, hx, rfl⟩ := key y hy; exact hf.iv x hx
  · intro y hy; obtain ⟨x, hx, rfl⟩ := key y hy
    have a := hs x hx
    obtain ⟨⟨b1, b2⟩, b3, b4⟩ := hf.ie x hx
    unfold I64 mvNd
    simp only
    omega
section
variable {fx : Nat → Option Obj} (H : Hp)
set_option maxHeartbeats 2000000 in
theorem lawplaces_ev (t : List Nd) (hf : Fine t) (n : Int) : evF (pgL fx) n_law13_TreePlaces [.d (treeD t), i64 n] H = some (boo true, H) := by
  refine evF_wq t_law13_TreePlaces rfl rfl ?_ H
  have htl := hf.len
  have hnl : (t.map Nd.D).length = t.length := List.length_map ..
  by_cases c1 : n < 0
  · repeat' (first | ((with_reducible show WQ _ _ _ _ _ _ _); (first | refine q_seq ?_ | refine q_block ?_ | refine q_reg ?_ | refine q_cond ?_ | refine q_exit ?_ | refine q_ret ?_ | refine q_skip ?_ | refine q_scope ?_ | refine q_draw ?_ | refine q_loop ?_ | refine q_mkrow ?_ | refine q_bindto ?_ | refine q_freeze ?_ | refine q_newrow ?_ | refine q_bindrow ?_)) | refine ks_nrm ?_ | refine ks_exit ?_ | refine ks_ret ?_ | refine kb_hit rfl ?_ | refine kb_exit rfl ?_ | refine kb_nrm ?_ | refine kb_ret ?_ | refine kl_nrm ?_ | refine kl_exit ?_ | refine kl_ret ?_ | refine And.intro (grew_self _) ?_ | refine and_t rfl ?_ | refine and_f rfl ?_ | refine gt_t rfl ?_ | refine gt_f rfl ?_ | refine gd_t rfl ?_ | refine gd_f rfl ?_ | refine ca (small_ev _) ?_ | refine and_t (decide_eq_true (by assumption)) ?_ | refine gt_t (decide_eq_true (by assumption)) ?_ | refine gd_t (decide_eq_true (by assumption)) ?_ | refine and_f (decide_eq_false (by assumption)) ?_ | refine gt_f (decide_eq_false (by assumption)) ?_ | refine gd_f (decide_eq_false (by assumption)) ?_ | refine pickD ⟨by first | decide | exact Int.NonNeg.mk _, rfl⟩ ?_ | refine And.intro rfl ?_ | ((fail_if_success with_reducible show WQ _ _ _ _ _ _ _); show WQ _ _ _ _ _ _ _) | fail)
    exact rfl
  by_cases c2 : 1048576 < n
  · repeat' (first | ((with_reducible show WQ _ _ _ _ _ _ _); (first | refine q_seq ?_ | refine q_block ?_ | refine q_reg ?_ | refine q_cond ?_ | refine q_exit ?_ | refine q_ret ?_ | refine q_skip ?_ | refine q_scope ?_ | refine q_draw ?_ | refine q_loop ?_ | refine q_mkrow ?_ | refine q_bindto ?_ | refine q_freeze ?_ | refine q_newrow ?_ | refine q_bindrow ?_)) | refine ks_nrm ?_ | refine ks_exit ?_ | refine ks_ret ?_ | refine kb_hit rfl ?_ | refine kb_exit rfl ?_ | refine kb_nrm ?_ | refine kb_ret ?_ | refine kl_nrm ?_ | refine kl_exit ?_ | refine kl_ret ?_ | refine And.intro (grew_self _) ?_ | refine and_t rfl ?_ | refine and_f rfl ?_ | refine gt_t rfl ?_ | refine gt_f rfl ?_ | refine gd_t rfl ?_ | refine gd_f rfl ?_ | refine ca (small_ev _) ?_ | refine and_t (decide_eq_true (by assumption)) ?_ | refine gt_t (decide_eq_true (by assumption)) ?_ | refine gd_t (decide_eq_true (by assumption)) ?_ | refine and_f (decide_eq_false (by assumption)) ?_ | refine gt_f (decide_eq_false (by assumption)) ?_ | refine gd_f (decide_eq_false (by assumption)) ?_ | refine pickD ⟨by first | decide | exact Int.NonNeg.mk _, rfl⟩ ?_ | refine And.intro rfl ?_ | ((fail_if_success with_reducible show WQ _ _ _ _ _ _ _); show WQ _ _ _ _ _ _ _) | fail)
    exact rfl
  repeat' (first | ((with_reducible show WQ _ _ _ _ _ _ _); (first | refine q_seq ?_ | refine q_block ?_ | refine q_reg ?_ | refine q_cond ?_ | refine q_exit ?_ | refine q_ret ?_ | refine q_skip ?_ | refine q_scope ?_ | refine q_draw ?_ | refine q_loop ?_ | refine q_mkrow ?_ | refine q_bindto ?_ | refine q_freeze ?_ | refine q_newrow ?_ | refine q_bindrow ?_)) | refine ks_nrm ?_ | refine ks_exit ?_ | refine ks_ret ?_ | refine kb_hit rfl ?_ | refine kb_exit rfl ?_ | refine kb_nrm ?_ | refine kb_ret ?_ | refine kl_nrm ?_ | refine kl_exit ?_ | refine kl_ret ?_ | refine And.intro (grew_self _) ?_ | refine and_t rfl ?_ | refine and_f rfl ?_ | refine gt_t rfl ?_ | refine gt_f rfl ?_ | refine gd_t rfl ?_ | refine gd_f rfl ?_ | refine ca (small_ev _) ?_ | refine and_t (decide_eq_true (by assumption)) ?_ | refine gt_t (decide_eq_true (by assumption)) ?_ | refine gd_t (decide_eq_true (by assumption)) ?_ | refine and_f (decide_eq_false (by assumption)) ?_ | refine gt_f (decide_eq_false (by assumption)) ?_ | refine gd_f (decide_eq_false (by assumption)) ?_ | refine pickD ⟨by first | decide | exact Int.NonNeg.mk _, rfl⟩ ?_ | refine And.intro rfl ?_ | ((fail_if_success with_reducible show WQ _ _ _ _ _ _ _); show WQ _ _ _ _ _ _ _) | fail)
  refine wq_loop (α := Nat) (fun i => t.length - i) (fun i => [(1, i64 n), (2, .ptr 0 0), (5, .ptr 2 0), (20, .d (.sl (t.map Nd.D))), (21, i64 t.length), (22, i64 i)]) (fun i => [.box [.d (.sl (t.map Nd.D))], .row 6 ((mvT n (t.take i)).map Nd.D), .box [.row 1 i]])
    (fun i => i ≤ t.length ∧ ∀ x ∈ t.take i, x.f ≤ 1099511627776 ∧ x.e ≤ 1099511627776) ?_ 0 ⟨Nat.zero_le _, by simp⟩ ?_ ?_
  · rintro i ⟨hi, hs⟩
    repeat' (first | ((with_reducible show WQ _ _ _ _ _ _ _); (first | refine q_seq ?_ | refine q_block ?_ | refine q_reg ?_ | refine q_cond ?_ | refine q_exit ?_ | refine q_ret ?_ | refine q_skip ?_ | refine q_scope ?_ | refine q_draw ?_ | refine q_loop ?_ | refine q_mkrow ?_ | refine q_bindto ?_ | refine q_freeze ?_ | refine q_newrow ?_ | refine q_bindrow ?_)) | refine ks_nrm ?_ | refine ks_exit ?_ | refine ks_ret ?_ | refine kb_hit rfl ?_ | refine kb_exit rfl ?_ | refine kb_nrm ?_ | refine kb_ret ?_ | refine kl_nrm ?_ | refine kl_exit ?_ | refine kl_ret ?_ | refine And.intro (grew_self _) ?_ | refine and_t rfl ?_ | refine and_f rfl ?_ | refine gt_t rfl ?_ | refine gt_f rfl ?_ | refine gd_t rfl ?_ | refine gd_f rfl ?_ | refine pickD ⟨by first | decide | exact Int.NonNeg.mk _, rfl⟩ ?_ | refine And.intro rfl ?_ | ((fail_if_success with_reducible show WQ _ _ _ _ _ _ _); show WQ _ _ _ _ _ _ _) | fail)
    refine And.intro (fun h => ?_) (fun h => ?_)
    · replace h := of_decide_eq_true h
      have hlt : i < t.length := by omega
      have hie := hf.ie _ (nd_mem hlt)
      have hga : (t.map Nd.D)[i]? = some (nd t i).D := (ndD_at (k := (i : Int)) (by omega) (by omega)).2
      have htk : t.take (i + 1) = t.take i ++ [nd t i] := by rw [List.take_add_one, List.getElem?_eq_getElem hlt]; simp [nd, hlt]
      revert hie hga htk
      generalize nd t i = x
      obtain ⟨xk, xt, xv, xks, xf, xe⟩ := x
      intro hie hga htk
      unfold I64 at hie
      simp only at hie
      by_cases d1 : 1099511627776 < xe
      · repeat' (first | ((with_reducible show WQ _ _ _ _ _ _ _); (first | refine q_seq ?_ | refine q_block ?_ | refine q_reg ?_ | refine q_cond ?_ | refine q_exit ?_ | refine q_ret ?_ | refine q_skip ?_ | refine q_scope ?_ | refine q_draw ?_ | refine q_loop ?_ | refine q_mkrow ?_ | refine q_bindto ?_ | refine q_freeze ?_ | refine q_newrow ?_ | refine q_bindrow ?_)) | refine ks_nrm ?_ | refine ks_exit ?_ | refine ks_ret ?_ | refine kb_hit rfl ?_ | refine kb_exit rfl ?_ | refine kb_nrm ?_ | refine kb_ret ?_ | refine kl_nrm ?_ | refine kl_exit ?_ | refine kl_ret ?_ | refine And.intro (grew_self _) ?_ | refine and_t rfl ?_ | refine and_f rfl ?_ | refine gt_t rfl ?_ | refine gt_f rfl ?_ | refine gd_t rfl ?_ | refine gd_f rfl ?_ | refine pickD (d := Nd.D ⟨xk, xt, xv, xks, xf, xe⟩) (And.intro (Int.natCast_nonneg i) hga) ?_ | refine ca (small_ev _) ?_ | refine and_t (decide_eq_true (by assumption)) ?_ | refine gt_t (decide_eq_true (by assumption)) ?_ | refine gd_t (decide_eq_true (by assumption)) ?_ | refine and_f (decide_eq_false (by assumption)) ?_ | refine gt_f (decide_eq_false (by assumption)) ?_ | refine gd_f (decide_eq_false (by assumption)) ?_ | refine pickD ⟨by first | decide | exact Int.NonNeg.mk _, rfl⟩ ?_ | refine And.intro rfl ?_ | ((fail_if_success with_reducible show WQ _ _ _ _ _ _ _); show WQ _ _ _ _ _ _ _) | fail)
        exact rfl
      by_cases d2 : 1099511627776 < xf
      · repeat' (first | ((with_reducible show WQ _ _ _ _ _ _ _); (first | refine q_seq ?_ | refine q_block ?_ | refine q_reg ?_ | refine q_cond ?_ | refine q_exit ?_ | refine q_ret ?_ | refine q_skip ?_ | refine q_scope ?_ | refine q_draw ?_ | refine q_loop ?_ | refine q_mkrow ?_ | refine q_bindto ?_ | refine q_freeze ?_ | refine q_newrow ?_ | refine q_bindrow ?_)) | refine ks_nrm ?_ | refine ks_exit ?_ | refine ks_ret ?_ | refine kb_hit rfl ?_ | refine kb_exit rfl ?_ | refine kb_nrm ?_ | refine kb_ret ?_ | refine kl_nrm ?_ | refine kl_exit ?_ | refine kl_ret ?_ | refine And.intro (grew_self _) ?_ | refine and_t rfl ?_ | refine and_f rfl ?_ | refine gt_t rfl ?_ | refine gt_f rfl ?_ | refine gd_t rfl ?_ | refine gd_f rfl ?_ | refine pickD (d := Nd.D ⟨xk, xt, xv, xks, xf, xe⟩) (And.intro (Int.natCast_nonneg i) hga) ?_ | refine ca (small_ev _) ?_ | refine and_t (decide_eq_true (by assumption)) ?_ | refine gt_t (decide_eq_true (by assumption)) ?_ | refine gd_t (decide_eq_true (by assumption)) ?_ | refine and_f (decide_eq_false (by assumption)) ?_ | refine gt_f (decide_eq_false (by assumption)) ?_ | refine gd_f (decide_eq_false (by assumption)) ?_ | refine pickD ⟨by first | decide | exact Int.NonNeg.mk _, rfl⟩ ?_ | refine And.intro rfl ?_ | ((fail_if_success with_reducible show WQ _ _ _ _ _ _ _); show WQ _ _ _ _ _ _ _) | fail)
        exact rfl
      repeat' (first | ((with_reducible show WQ _ _ _ _ _ _ _); (first | refine q_seq ?_ | refine q_block ?_ | refine q_reg ?_ | refine q_cond ?_ | refine q_exit ?_ | refine q_ret ?_ | refine q_skip ?_ | refine q_scope ?_ | refine q_draw ?_ | refine q_loop ?_ | refine q_mkrow ?_ | refine q_bindto ?_ | refine q_freeze ?_ | refine q_newrow ?_ | refine q_bindrow ?_)) | refine ks_nrm ?_ | refine ks_exit ?_ | refine ks_ret ?_ | refine kb_hit rfl ?_ | refine kb_exit rfl ?_ | refine kb_nrm ?_ | refine kb_ret ?_ | refine kl_nrm ?_ | refine kl_exit ?_ | refine kl_ret ?_ | refine And.intro (grew_self _) ?_ | refine and_t rfl ?_ | refine and_f rfl ?_ | refine gt_t rfl ?_ | refine gt_f rfl ?_ | refine gd_t rfl ?_ | refine gd_f rfl ?_ | refine pickD (d := Nd.D ⟨xk, xt, xv, xks, xf, xe⟩) (And.intro (Int.natCast_nonneg i) hga) ?_ | refine ca (small_ev _) ?_ | refine and_t (decide_eq_true (by assumption)) ?_ | refine gt_t (decide_eq_true (by assumption)) ?_ | refine gd_t (decide_eq_true (by assumption)) ?_ | refine and_f (decide_eq_false (by assumption)) ?_ | refine gt_f (decide_eq_false (by assumption)) ?_ | refine gd_f (decide_eq_false (by assumption)) ?_ | refine pickD ⟨by first | decide | exact Int.NonNeg.mk _, rfl⟩ ?_ | refine And.intro rfl ?_ | ((fail_if_success with_reducible show WQ _ _ _ _ _ _ _); show WQ _ _ _ _ _ _ _) | fail)
      have w1 : IntKind.i64.wrap (xf + n) = xf + n := i64w (by omega)
      have w2 : IntKind.i64.wrap (xe + n) = xe + n := i64w (by omega)
      refine And.intro ⟨rfl, by decide⟩ ?_
      have hml : ((mvT n (t.take i)).map Nd.D).length = i := by unfold mvT; rw [List.length_map, List.length_map, List.length_take]; omega
      refine And.intro ⟨rfl, hml, by show roomy (i + 1) 72; unfold roomy; omega⟩ ?_
      repeat' (first | ((with_reducible show WQ _ _ _ _ _ _ _); (first | refine q_seq ?_ | refine q_block ?_ | refine q_reg ?_ | refine q_cond ?_ | refine q_exit ?_ | refine q_ret ?_ | refine q_skip ?_ | refine q_scope ?_ | refine q_draw ?_ | refine q_loop ?_ | refine q_mkrow ?_ | refine q_bindto ?_ | refine q_freeze ?_ | refine q_newrow ?_ | refine q_bindrow ?_)) | refine ks_nrm ?_ | refine ks_exit ?_ | refine ks_ret ?_ | refine kb_hit rfl ?_ | refine kb_exit rfl ?_ | refine kb_nrm ?_ | refine kb_ret ?_ | refine kl_nrm ?_ | refine kl_exit ?_ | refine kl_ret ?_ | refine And.intro (grew_self _) ?_ | refine and_t rfl ?_ | refine and_f rfl ?_ | refine gt_t rfl ?_ | refine gt_f rfl ?_ | refine gd_t rfl ?_ | refine gd_f rfl ?_ | refine pickD ⟨by first | decide | exact Int.NonNeg.mk _, rfl⟩ ?_ | refine And.intro rfl ?_ | ((fail_if_success with_reducible show WQ _ _ _ _ _ _ _); show WQ _ _ _ _ _ _ _) | fail)
      refine ⟨i + 1, ⟨by omega, ?_⟩, by omega, by rw [i64w (by omega)]; rfl, ?_⟩
      · intro x hx
        rw [htk] at hx
        rcases List.mem_append.1 hx with hx | hx
        · exact hs x hx
        · rw [List.mem_singleton.1 hx]; exact ⟨by show xf ≤ _; omega, by show xe ≤ _; omega⟩
      · have em : (mvT n (t.take (i + 1))).map Nd.D = (mvT n (t.take i)).map Nd.D ++ [(mvNd n ⟨xk, xt, xv, xks, xf, xe⟩).D] := by rw [htk]; simp [mvT]
        rw [em]
        show [_, Ob.row 6 (_ ++ [D.agg [.int .i64 xk, .str xt, .int .i64 xv, .sl (xks.map (D.int .i64)), .int .i64 (IntKind.i64.wrap (xf + n)), .int .i64 (IntKind.i64.wrap (xe + n))]]), _] = _
        rw [w1, w2]; rfl
    · replace h := of_decide_eq_false h
      rw [List.take_of_length_le (by omega)] at hs
      have hi' : i = t.length := by omega
      have hu := mv_fine hf (b := n) (by omega) (by omega) hs
      subst hi'
      have hg : (mvT n (t.take t.length)) = mvT n t := by rw [List.take_of_length_le (Nat.le_refl _)]
      have hmu : ((mvT n (t.take t.length)).map Nd.D).length = t.length := by rw [hg]; simp [mvT]
      obtain ⟨HH, hHH⟩ : ∃ X : Hp, X = [.box [.d (.sl (t.map Nd.D))], .row 6 ((mvT n (t.take t.length)).map Nd.D), .box [.row 1 t.length]] := ⟨_, rfl⟩
      have ea : toArg HH (.agg [.row 1 t.length]) = .d (treeD (mvT n t)) := by rw [hHH]; rw [← hg]; exact toArg_row rfl hmu
      have hp2 := print_ev (fx := fx) HH (mvT n t) hu
      have hs2 := same_ev (fx := fx) HH t (mvT n t) (by omega) (fun x hx => by have := hf.kid x hx; omega)
      rw [same_mv] at hs2
      rw [← ea] at hs2
      have hp := fun H => print_ev (fx := fx) H t hf
      cases hc : checkB t with
      | false =>
        have e : prA t = ([], 3) := by unfold prA; rw [hc]; rfl
        rw [e] at hp
        rw [← ea] at hp2
        subst hHH
        repeat' (first | ((with_reducible show WQ _ _ _ _ _ _ _); (first | refine q_seq ?_ | refine q_block ?_ | refine q_reg ?_ | refine q_cond ?_ | refine q_exit ?_ | refine q_ret ?_ | refine q_skip ?_ | refine q_scope ?_ | refine q_draw ?_ | refine q_loop ?_ | refine q_mkrow ?_ | refine q_bindto ?_ | refine q_freeze ?_ | refine q_newrow ?_ | refine q_bindrow ?_)) | refine ks_nrm ?_ | refine ks_exit ?_ | refine ks_ret ?_ | refine kb_hit rfl ?_ | refine kb_exit rfl ?_ | refine kb_nrm ?_ | refine kb_ret ?_ | refine kl_nrm ?_ | refine kl_exit ?_ | refine kl_ret ?_ | refine And.intro (grew_self _) ?_ | refine and_t rfl ?_ | refine and_f rfl ?_ | refine gt_t rfl ?_ | refine gt_f rfl ?_ | refine gd_t rfl ?_ | refine gd_f rfl ?_ | refine ca (hp _) ?_ | refine ca hp2 ?_ | refine ca (small_ev _) ?_ | refine pickD ⟨by first | decide | exact Int.NonNeg.mk _, rfl⟩ ?_ | refine And.intro rfl ?_ | ((fail_if_success with_reducible show WQ _ _ _ _ _ _ _); show WQ _ _ _ _ _ _ _) | fail)
        exact rfl
      | true =>
        have e : prA t = (prS t, 0) := by unfold prA; rw [hc]; rfl
        have e2 : prA (mvT n t) = (prS t, 0) := by rw [prA_mv (by omega) hc, e]
        rw [e] at hp
        rw [e2] at hp2
        rw [← ea] at hp2
        subst hHH
        repeat' (first | ((with_reducible show WQ _ _ _ _ _ _ _); (first | refine q_seq ?_ | refine q_block ?_ | refine q_reg ?_ | refine q_cond ?_ | refine q_exit ?_ | refine q_ret ?_ | refine q_skip ?_ | refine q_scope ?_ | refine q_draw ?_ | refine q_loop ?_ | refine q_mkrow ?_ | refine q_bindto ?_ | refine q_freeze ?_ | refine q_newrow ?_ | refine q_bindrow ?_)) | refine ks_nrm ?_ | refine ks_exit ?_ | refine ks_ret ?_ | refine kb_hit rfl ?_ | refine kb_exit rfl ?_ | refine kb_nrm ?_ | refine kb_ret ?_ | refine kl_nrm ?_ | refine kl_exit ?_ | refine kl_ret ?_ | refine And.intro (grew_self _) ?_ | refine and_t rfl ?_ | refine and_f rfl ?_ | refine gt_t rfl ?_ | refine gt_f rfl ?_ | refine gd_t rfl ?_ | refine gd_f rfl ?_ | refine ca (hp _) ?_ | refine ca hp2 ?_ | refine ca hs2 ?_ | refine gt_t (decide_eq_true rfl) ?_ | refine ca (small_ev _) ?_ | refine pickD ⟨by first | decide | exact Int.NonNeg.mk _, rfl⟩ ?_ | refine And.intro rfl ?_ | ((fail_if_success with_reducible show WQ _ _ _ _ _ _ _); show WQ _ _ _ _ _ _ _) | fail)
        exact rfl
  · show [_, _, _, _, (21, i64 ((t.map Nd.D).length : Int)), _] = _
    rw [hnl]; rfl
  · rfl

end
end Go.Vm.Trd
