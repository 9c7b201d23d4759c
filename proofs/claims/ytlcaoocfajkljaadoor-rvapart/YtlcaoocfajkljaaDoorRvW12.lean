import Derived.Test.YtlcaoocfajkljaaDoorRvW11
set_option linter.unusedSimpArgs false
set_option linter.unusedVariables false
namespace Go.Vm.Rv
set_option maxRecDepth 10000
section
variable {fx : Nat → Option Obj} {rowsD : List D} {rw_ : Int → Rw} (R : RowsOk rowsD rw_) (H : Hp)
def rdP2 (A B : Bool) (r1 r2 r : Int) : Bool := (A && decide (r1 = r)) || (B && decide (r2 = r))
set_option maxHeartbeats 1000000 in
theorem rreads_ev (op rd r1 r2 n : Int) : evF (pgR fx rowsD) 19 [.d (insD op rd r1 r2 n)] H = some (readsR (rightL op rd r1 r2 n) op (rdP2 (hasA (formL op).f) (hasB (formL op).f) r1 r2), H) := by
  refine evF_wp tbl19 rfl rfl ?_ H
  unfold readsR
  cases hc : rightL op rd r1 r2 n with
  | false =>
    refine Exists.intro _ (Exists.intro _ (And.intro ((right_ev _ op rd r1 r2 n).trans (by rw [hc])) ?_))
    refine And.intro (fun h => ?_) (fun h => ?_)
    · rfl
    · exfalso; simp at h
  | true =>
    refine Exists.intro _ (Exists.intro _ (And.intro ((right_ev _ op rd r1 r2 n).trans (by rw [hc])) ?_))
    refine And.intro (fun h => ?_) (fun h => ?_)
    · exfalso; simp at h
    refine And.intro (fun ho => ?_) (fun ho => ?_)
    · replace ho := of_decide_eq_true ho
      rw [if_pos ho]
      rfl
    · replace ho := of_decide_eq_false ho
      rw [if_neg ho]
      refine Exists.intro _ (Exists.intro _ (And.intro (form_ev _ _) ?_))
      refine Exists.intro _ (Exists.intro _ (And.intro (Has_ev _ _) ?_))
      generalize hasA (formL op).f = A
      generalize hasB (formL op).f = B
      refine wp_loop (α := Nat) (fun k => 31 - k) (fun k => [(1, .ptr 0 0), (5, .d (.bool A)), (6, .d (.bool B)), (7, .row 1 (accD (rdP2 A B r1 r2) k).length), (8, .d (.int .i64 ((k : Int) + 1)))]) (fun k => [.box [.d (.int .i64 op), .d (.int .i64 rd), .d (.int .i64 r1), .d (.int .i64 r2), .d (.int .i64 n)], .row 1 (accD (rdP2 A B r1 r2) k)])
        (fun k => k ≤ 31) ?_ 0 (by omega)
      intro k hk
      have hl := accD_len (rdP2 A B r1 r2) k
      have hw : IntKind.i64.wrap ((k : Int) + 1 + 1) = ((k + 1 : Nat) : Int) + 1 := by rw [i64w (by omega)]; omega
      have hs := accD_succ (rdP2 A B r1 r2) k
      refine And.intro (fun h => ?_) (fun h => ?_)
      · replace h := of_decide_eq_true h
        have yes : rdP2 A B r1 r2 ((k : Int) + 1) = true → accD (rdP2 A B r1 r2) (k + 1) = accD (rdP2 A B r1 r2) k ++ [.int .i64 ((k : Int) + 1)] := fun hp => by rw [hs, if_pos hp]
        have no : rdP2 A B r1 r2 ((k : Int) + 1) = false → accD (rdP2 A B r1 r2) (k + 1) = accD (rdP2 A B r1 r2) k := fun hp => by rw [hs, hp]; rfl
        have fin1 : ∀ hp : rdP2 A B r1 r2 ((k : Int) + 1) = true, ∃ a', a' ≤ 31 ∧ 31 - a' < 31 - k ∧ ([(1, .ptr 0 0), (5, .d (.bool A)), (6, .d (.bool B)), (7, .row 1 ((accD (rdP2 A B r1 r2) k).length + [D.int .i64 ((k : Int) + 1)].length)), (8, .d (.int .i64 (IntKind.i64.wrap ((k : Int) + 1 + 1))))] : Env) = [(1, .ptr 0 0), (5, .d (.bool A)), (6, .d (.bool B)), (7, .row 1 (accD (rdP2 A B r1 r2) a').length), (8, .d (.int .i64 ((a' : Int) + 1)))] ∧ ([.box [.d (.int .i64 op), .d (.int .i64 rd), .d (.int .i64 r1), .d (.int .i64 r2), .d (.int .i64 n)], .row 1 (accD (rdP2 A B r1 r2) k ++ [.int .i64 ((k : Int) + 1)])] : Hp) = [.box [.d (.int .i64 op), .d (.int .i64 rd), .d (.int .i64 r1), .d (.int .i64 r2), .d (.int .i64 n)], .row 1 (accD (rdP2 A B r1 r2) a')] := by
          intro hp
          refine ⟨k + 1, by omega, by omega, ?_, ?_⟩
          · rw [hw, yes hp, List.length_append]
          · rw [yes hp]
        have fin2 : ∀ hp : rdP2 A B r1 r2 ((k : Int) + 1) = false, ∃ a', a' ≤ 31 ∧ 31 - a' < 31 - k ∧ ([(1, .ptr 0 0), (5, .d (.bool A)), (6, .d (.bool B)), (7, .row 1 (accD (rdP2 A B r1 r2) k).length), (8, .d (.int .i64 (IntKind.i64.wrap ((k : Int) + 1 + 1))))] : Env) = [(1, .ptr 0 0), (5, .d (.bool A)), (6, .d (.bool B)), (7, .row 1 (accD (rdP2 A B r1 r2) a').length), (8, .d (.int .i64 ((a' : Int) + 1)))] ∧ ([.box [.d (.int .i64 op), .d (.int .i64 rd), .d (.int .i64 r1), .d (.int .i64 r2), .d (.int .i64 n)], .row 1 (accD (rdP2 A B r1 r2) k)] : Hp) = [.box [.d (.int .i64 op), .d (.int .i64 rd), .d (.int .i64 r1), .d (.int .i64 r2), .d (.int .i64 n)], .row 1 (accD (rdP2 A B r1 r2) a')] := by
          intro hp
          refine ⟨k + 1, by omega, by omega, ?_, ?_⟩
          · rw [hw, no hp]
          · rw [no hp]
        clear yes no hs hw
        cases A <;> cases B <;> by_cases e1 : r1 = (k : Int) + 1 <;> by_cases e2 : r2 = (k : Int) + 1
        all_goals
          repeat' (first
            | (refine And.intro (fun h => ?_) (fun h => ?_) <;> try (exfalso; first | (simp only [e1, e2, decide_true, decide_false, Bool.false_eq_true, Bool.true_eq_false, Bool.not_true, Bool.not_false, reduceCtorEq] at h; done)))
            | refine And.intro ⟨rfl, by decide⟩ ?_
            | refine And.intro ⟨rfl, rfl, ⟨by simp; omega, by simp; omega⟩⟩ ?_)
        all_goals first
          | exact fin1 (by simp only [rdP2, e1, e2, decide_true, decide_false, Bool.true_and, Bool.false_and, Bool.or_true, Bool.true_or, Bool.or_false, Bool.false_or])
          | exact fin2 (by simp only [rdP2, e1, e2, decide_true, decide_false, Bool.true_and, Bool.false_and, Bool.or_true, Bool.true_or, Bool.or_false, Bool.false_or])
      · replace h := of_decide_eq_false h
        have : k = 31 := by omega
        subst this
        refine And.intro rfl ?_
        show _ = _
        rfl
def writesR (ok : Bool) (op rd : Int) : V := if ok then (if op = 64 then .tup [.d (.int .i64 10), .d (.int .i64 0)] else .tup [.d (.int .i64 rd), .d (.int .i64 0)]) else .tup [.d (.int .i64 0), .d (.int .i64 11)]
include R in
theorem writes_ev (op rd r1 r2 n : Int) : evF (pgR fx rowsD) 20 [.d (insD op rd r1 r2 n)] H = some (writesR (chkL rw_ op rd r1 r2 n) op rd, H) := by
  refine evF_wp tbl20 rfl rfl ?_ H
  refine Exists.intro _ (Exists.intro _ (And.intro (chk_ev R _ op rd r1 r2 n) ?_))
  repeat' refine And.intro (fun h => ?_) (fun h => ?_)
  all_goals show _ = _
  all_goals grind [oneOf, writesR]
theorem rwrites_ev (op rd r1 r2 n : Int) : evF (pgR fx rowsD) 21 [.d (insD op rd r1 r2 n)] H = some (writesR (rightL op rd r1 r2 n) op rd, H) := by
  refine evF_wp tbl21 rfl rfl ?_ H
  refine Exists.intro _ (Exists.intro _ (And.intro (right_ev _ op rd r1 r2 n) ?_))
  repeat' refine And.intro (fun h => ?_) (fun h => ?_)
  all_goals show _ = _
  all_goals grind [oneOf, writesR]
theorem ints_ev (xs : List Int) (hx : xs.length ≤ 1000) : evF (pgR fx rowsD) 22 [.d (.sl (xs.map (D.int .i64))), .d (.sl (xs.map (D.int .i64)))] H = some (.d (.bool true), H) := by
  refine evF_wp tbl22 rfl rfl ?_ H
  refine And.intro (fun h => ?_) (fun h => ?_)
  · exfalso; simp at h
  refine wp_loop (α := Nat) (fun i => xs.length - i) (fun i => [(0, .d (.sl (xs.map (D.int .i64)))), (1, .d (.sl (xs.map (D.int .i64)))), (12, .d (.int .i64 ((xs.map (D.int .i64)).length : Nat))), (13, .d (.int .i64 (i : Int)))]) (fun _ => []) (fun i => i ≤ xs.length) ?_ 0 (by omega)
  intro i hi
  refine And.intro (fun h => ?_) (fun h => ?_)
  · replace h := of_decide_eq_true h
    rw [List.length_map] at h
    have hlt : i < xs.length := by omega
    have hget : (0 : Int) ≤ (i : Int) ∧ (xs.map (D.int .i64))[((i : Int)).toNat]? = some (.int .i64 xs[i]) := ⟨by omega, by rw [Int.toNat_natCast, List.getElem?_map, List.getElem?_eq_getElem hlt]; rfl⟩
    refine Exists.intro (.int .i64 xs[i]) (And.intro hget (And.intro rfl ?_))
    refine Exists.intro (.int .i64 xs[i]) (And.intro hget (And.intro rfl ?_))
    refine And.intro (fun h => ?_) (fun h => ?_)
    · exfalso; simp at h
    · refine ⟨i + 1, by omega, by omega, ?_, rfl⟩
      rw [i64w (by omega)]
      rfl
  · rfl
end
end Go.Vm.Rv
