import Derived.Test.YtlcaoocfajkljaaDoorRvW10
namespace Go.Vm.Rv
set_option maxRecDepth 10000
/-- The registers from 1 to k that are meant. -/
def acc (p : Int → Bool) : Nat → List Int
  | 0 => []
  | k + 1 => if p (k + 1) then acc p k ++ [(k : Int) + 1] else acc p k
theorem acc_len (p : Int → Bool) : ∀ k, (acc p k).length ≤ k
  | 0 => Nat.le_refl _
  | k + 1 => by
    have := acc_len p k
    unfold acc
    split
    · simp; omega
    · omega
theorem acc_ext {p q : Int → Bool} : ∀ k : Nat, (∀ r : Int, 1 ≤ r → r ≤ k → p r = q r) → acc p k = acc q k
  | 0, _ => rfl
  | k + 1, h => by
    unfold acc
    rw [h (k + 1) (by omega) (by omega), acc_ext k fun r h1 h2 => h r h1 (by omega)]
def accD (p : Int → Bool) (k : Nat) : List D := (acc p k).map (D.int .i64)
theorem accD_succ (p : Int → Bool) (k : Nat) : accD p (k + 1) = if p (k + 1) then accD p k ++ [.int .i64 ((k : Int) + 1)] else accD p k := by
  unfold accD
  rw [acc]
  split
  · simp
  · rfl
theorem accD_len (p : Int → Bool) (k : Nat) : (accD p k).length ≤ k := by unfold accD; rw [List.length_map]; exact acc_len p k
section
variable {fx : Nat → Option Obj} {rowsD : List D} {rw_ : Int → Rw} (R : RowsOk rowsD rw_) (H : Hp)
def rdP1 (r1 r2 r : Int) : Bool := decide (r = r1) || decide (r = r2)
def readsR (ok : Bool) (op : Int) (p : Int → Bool) : V := if ok then (if op = 64 then .tup [.d (.sl [.int .i64 10, .int .i64 17]), .d (.int .i64 0)] else .tup [.d (.sl (accD p 31)), .d (.int .i64 0)]) else .tup [.d (.sl []), .d (.int .i64 11)]
include R in
set_option maxHeartbeats 1000000 in
theorem reads_ev (op rd r1 r2 n : Int) : evF (pgR fx rowsD) 18 [.d (insD op rd r1 r2 n)] H = some (readsR (chkL rw_ op rd r1 r2 n) op (rdP1 r1 r2), H) := by
  refine evF_wp tbl18 rfl rfl ?_ H
  unfold readsR
  cases hc : chkL rw_ op rd r1 r2 n with
  | false =>
    refine Exists.intro _ (Exists.intro _ (And.intro ((chk_ev R _ op rd r1 r2 n).trans (by rw [hc])) ?_))
    refine And.intro (fun h => ?_) (fun h => ?_)
    · rfl
    · exfalso; simp at h
  | true =>
    refine Exists.intro _ (Exists.intro _ (And.intro ((chk_ev R _ op rd r1 r2 n).trans (by rw [hc])) ?_))
    refine And.intro (fun h => ?_) (fun h => ?_)
    · exfalso; simp at h
    refine And.intro (fun ho => ?_) (fun ho => ?_)
    · replace ho := of_decide_eq_true ho
      rw [if_pos ho]
      rfl
    · replace ho := of_decide_eq_false ho
      rw [if_neg ho]
      refine wp_loop (α := Nat) (fun k => 31 - k) (fun k => [(1, .ptr 0 0), (4, .row 1 (accD (rdP1 r1 r2) k).length), (5, .d (.int .i64 ((k : Int) + 1)))]) (fun k => [.box [.d (.int .i64 op), .d (.int .i64 rd), .d (.int .i64 r1), .d (.int .i64 r2), .d (.int .i64 n)], .row 1 (accD (rdP1 r1 r2) k)])
        (fun k => k ≤ 31) ?_ 0 (by omega)
      intro k hk
      have hl := accD_len (rdP1 r1 r2) k
      have hw : IntKind.i64.wrap ((k : Int) + 1 + 1) = ((k + 1 : Nat) : Int) + 1 := by rw [i64w (by omega)]; omega
      have hs := accD_succ (rdP1 r1 r2) k
      refine And.intro (fun h => ?_) (fun h => ?_)
      · replace h := of_decide_eq_true h
        have yes : rdP1 r1 r2 ((k : Int) + 1) = true → accD (rdP1 r1 r2) (k + 1) = accD (rdP1 r1 r2) k ++ [.int .i64 ((k : Int) + 1)] := fun hp => by rw [hs, if_pos hp]
        have no : rdP1 r1 r2 ((k : Int) + 1) = false → accD (rdP1 r1 r2) (k + 1) = accD (rdP1 r1 r2) k := fun hp => by rw [hs, hp]; rfl
        have fin1 : ∀ hp : rdP1 r1 r2 ((k : Int) + 1) = true, ∃ a', a' ≤ 31 ∧ 31 - a' < 31 - k ∧ ([(1, .ptr 0 0), (4, .row 1 ((accD (rdP1 r1 r2) k).length + [D.int .i64 ((k : Int) + 1)].length)), (5, .d (.int .i64 (IntKind.i64.wrap ((k : Int) + 1 + 1))))] : Env) = [(1, .ptr 0 0), (4, .row 1 (accD (rdP1 r1 r2) a').length), (5, .d (.int .i64 ((a' : Int) + 1)))] ∧ ([.box [.d (.int .i64 op), .d (.int .i64 rd), .d (.int .i64 r1), .d (.int .i64 r2), .d (.int .i64 n)], .row 1 (accD (rdP1 r1 r2) k ++ [.int .i64 ((k : Int) + 1)])] : Hp) = [.box [.d (.int .i64 op), .d (.int .i64 rd), .d (.int .i64 r1), .d (.int .i64 r2), .d (.int .i64 n)], .row 1 (accD (rdP1 r1 r2) a')] := by
          intro hp
          refine ⟨k + 1, by omega, by omega, ?_, ?_⟩
          · rw [hw, yes hp, List.length_append]
          · rw [yes hp]
        have fin2 : ∀ hp : rdP1 r1 r2 ((k : Int) + 1) = false, ∃ a', a' ≤ 31 ∧ 31 - a' < 31 - k ∧ ([(1, .ptr 0 0), (4, .row 1 (accD (rdP1 r1 r2) k).length), (5, .d (.int .i64 (IntKind.i64.wrap ((k : Int) + 1 + 1))))] : Env) = [(1, .ptr 0 0), (4, .row 1 (accD (rdP1 r1 r2) a').length), (5, .d (.int .i64 ((a' : Int) + 1)))] ∧ ([.box [.d (.int .i64 op), .d (.int .i64 rd), .d (.int .i64 r1), .d (.int .i64 r2), .d (.int .i64 n)], .row 1 (accD (rdP1 r1 r2) k)] : Hp) = [.box [.d (.int .i64 op), .d (.int .i64 rd), .d (.int .i64 r1), .d (.int .i64 r2), .d (.int .i64 n)], .row 1 (accD (rdP1 r1 r2) a')] := by
          intro hp
          refine ⟨k + 1, by omega, by omega, ?_, ?_⟩
          · rw [hw, no hp]
          · rw [no hp]
        refine And.intro (fun ha => ?_) (fun ha => ?_)
        · refine And.intro (fun hb => ?_) (fun hb => ?_)
          · refine And.intro ⟨rfl, by decide⟩ ?_
            refine And.intro ⟨rfl, rfl, ⟨by simp; omega, by simp; omega⟩⟩ ?_
            exact fin1 (by replace ha : decide ((k : Int) + 1 = r1) = false := ha; simp only [rdP1, ha, Bool.false_or]; exact hb)
          · exact fin2 (by replace ha : decide ((k : Int) + 1 = r1) = false := ha; simp only [rdP1, ha, Bool.false_or]; exact hb)
        · refine And.intro (fun hb => ?_) (fun hb => ?_)
          · refine And.intro ⟨rfl, by decide⟩ ?_
            refine And.intro ⟨rfl, rfl, ⟨by simp; omega, by simp; omega⟩⟩ ?_
            exact fin1 (by replace ha : decide ((k : Int) + 1 = r1) = true := ha; simp only [rdP1, ha, Bool.true_or])
          · cases hb
      · replace h := of_decide_eq_false h
        have : k = 31 := by omega
        subst this
        refine And.intro rfl ?_
        show _ = _
        rfl
end
end Go.Vm.Rv
