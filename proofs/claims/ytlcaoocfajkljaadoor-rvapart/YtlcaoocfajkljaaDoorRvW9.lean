import Derived.Test.YtlcaoocfajkljaaDoorRvW8
namespace Go.Vm.Rv
set_option maxRecDepth 10000
section
variable {fx : Nat → Option Obj} {rowsD : List D} {rw_ : Int → Rw} (R : RowsOk rowsD rw_) (H : Hp)
/-- An instruction's text, by its row. -/
def txtL (r : Rw) (op rd r1 r2 n : Int) : List UInt8 :=
  if r.f = 78 then nameL op
  else if r.f = 82 then nameL op ++ 32 :: (xL rd ++ 44 :: (xL r1 ++ 44 :: xL r2))
  else if r.c = 3 ∨ r.c = 103 then nameL op ++ 32 :: (xL rd ++ 44 :: (Lib.itoa n ++ 40 :: (xL r1 ++ [41])))
  else if r.f = 73 ∨ r.f = 72 then nameL op ++ 32 :: (xL rd ++ 44 :: (xL r1 ++ 44 :: Lib.itoa n))
  else if r.f = 83 then nameL op ++ 32 :: (xL r2 ++ 44 :: (Lib.itoa n ++ 40 :: (xL r1 ++ [41])))
  else if r.f = 66 then nameL op ++ 32 :: (xL r1 ++ 44 :: (xL r2 ++ 44 :: Lib.itoa n))
  else nameL op ++ 32 :: (xL rd ++ 44 :: Lib.itoa n)
include R in
set_option maxHeartbeats 2000000 in
theorem text_ev (op rd r1 r2 n : Int) (s1 : Small rd) (s2 : Small r1) (s3 : Small r2) (s4 : Small n) : evF (pgR fx rowsD) 16 [.d (insD op rd r1 r2 n)] H = some (if chkL rw_ op rd r1 r2 n then .tup [.d (.str (txtL (rw_ op) op rd r1 r2 n)), .d (.int .i64 0)] else .tup [.d (.str []), .d (.int .i64 11)], H) := by
  have l0 := name_short op
  have l1 := xL_len rd s1
  have l2 := xL_len r1 s2
  have l3 := xL_len r2 s3
  have l4 := s4.2.2
  refine evF_wp tbl16 rfl rfl ?_ H
  cases hc : chkL rw_ op rd r1 r2 n with
  | false =>
    refine Exists.intro _ (Exists.intro _ (And.intro ((chk_ev R _ op rd r1 r2 n).trans (by rw [hc])) ?_))
    refine And.intro (fun h => ?_) (fun h => ?_)
    · rfl
    · exfalso; simp at h
  | true =>
    have ho := ofL_of hc
    refine Exists.intro _ (Exists.intro _ (And.intro ((chk_ev R _ op rd r1 r2 n).trans (by rw [hc])) ?_))
    refine And.intro (fun h => ?_) (fun h => ?_)
    · exfalso; simp at h
    refine Exists.intro _ (Exists.intro _ (And.intro (of_ev R _ _) ?_))
    refine Exists.intro _ (Exists.intro _ (And.intro (fmt_ev _ _ s4) ?_))
    generalize hq : (ofL rw_ op).1 = q at *
    subst ho
    repeat' (first
      | refine And.intro (fun h => ?_) (fun h => ?_)
      | refine And.intro (grew_self _) ?_
      | refine Exists.intro _ (Exists.intro _ (And.intro (name_ev _ _) ?_))
      | refine Exists.intro _ (Exists.intro _ (And.intro (tx_ev _ _ (by assumption)) ?_))
      | refine Exists.intro _ (Exists.intro _ (And.intro (join2_ev _ _ _ (by first | omega | (simp only [List.length_append, List.length_cons, List.length_nil]; omega)) (by first | omega | (simp only [List.length_append, List.length_cons, List.length_nil]; omega))) ?_))
      | refine Exists.intro _ (Exists.intro _ (And.intro (join3_ev _ _ _ _ (by first | omega | (simp only [List.length_append, List.length_cons, List.length_nil]; omega)) (by first | omega | (simp only [List.length_append, List.length_cons, List.length_nil]; omega)) (by first | omega | (simp only [List.length_append, List.length_cons, List.length_nil]; omega))) ?_))
      | refine And.intro (by first | omega | (simp only [List.length_append, List.length_cons, List.length_nil]; omega)) ?_)
    all_goals show _ = _
    all_goals simp only [oneOf, if_true]
    all_goals simp only [txtL]
    all_goals simp at *
    all_goals simp [*]
end
end Go.Vm.Rv
