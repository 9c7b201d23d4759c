import Derived.Test.YtpgpjenfnbcclaaTypK4
import Derived.Test.YtpgpjenfnbcclaaTypArg
set_option linter.unusedSimpArgs false
set_option linter.unusedVariables false
namespace Go.Vm.Typ
open Go Go.Vm Go.Proofs Go.Vm.Ip
set_option maxRecDepth 100000
noncomputable def F2 : Nat → Option VFun := fun i => if i = 46 then some (.prim primChk) else if i = 50 then some (.prim primClone) else none
theorem F2_50 : F2 50 = some (.prim primClone) := rfl
theorem F2_cases {f : Nat} {e : VFun} (h : F2 f = some e) : (f = 46 ∧ e = .prim primChk) ∨ (f = 50 ∧ e = .prim primClone) := by
  unfold F2 at h
  split at h
  · rename_i hf; cases h; exact .inl ⟨hf, rfl⟩
  · split at h
    · rename_i hf; cases h; exact .inr ⟨hf, rfl⟩
    · cases h
theorem tOk2 (fx : Nat → Option Obj) : TblOk Try.prog (pgL fx F2) := tblOk _ _ fun f e h => by
  rcases F2_cases h with ⟨rfl, rfl⟩ | ⟨rfl, rfl⟩
  · exact chk_spec
  · exact clone_spec _
section
variable {fx : Nat → Option Obj}
theorem check_ev (x : Its) (hx : Fine x) (H : Hp) : evF (pgL fx F2) 46 [.d x.D] H = some (i64 (if chkB x then 0 else 7), H) := by
  have ht : (pgL fx F2).tbl 46 = some (.prim primChk) := rfl
  rw [evF_prim ht]
  exact primChk_of hx H
end
end Go.Vm.Typ
namespace Go.Vm.Typ
open Go Go.Vm Go.Proofs Go.Vm.Ip
set_option maxRecDepth 10000
section
variable {fx : Nat → Option Obj} {F : Nat → Option VFun}
theorem isRef_ev (s : S) (H : Hp) : evF (pgL fx F) n_types_isRef [str s] H = some (boo (preB s [38]), H) := by
  refine evF_wq (t_types_isRef (F := F)) rfl rfl ?_ H
  have e1 := shasp_ev (fx := fx) (F := F) s [38]
  repeat' (first | refine run ⟨?_⟩ | refine ca (e1 _) ?_ | fail)
  exact rfl
theorem tFits_ev (a b : S) (H : Hp) : evF (pgL fx F) n_types_Fits [str a, str b] H = some (boo (fitB a b), H) := by
  refine evF_wq (t_types_Fits (F := F)) rfl rfl ?_ H
  unfold fitB
  by_cases h : a = b
  · rw [decide_eq_true h, Bool.true_or]
    refine run ⟨?_⟩
    exact rfl
  · rw [decide_eq_false h, Bool.false_or]
    refine run ⟨?_⟩
    exact rfl
theorem tInner_ev (s : S) (hs : s.length ≤ mx) (H : Hp) : evF (pgL fx F) n_types_Inner [str s] H = some (.tup [str (inM s).1, boo (inM s).2], H) := by
  refine evF_wq (t_types_Inner (F := F)) rfl rfl ?_ H
  have e1 := scutp_ev (fx := fx) (F := F) s mutT
  have e2 := scutp_ev (fx := fx) (F := F) s [38]
  have e3 := scutp_ev (fx := fx) (F := F) s boxT
  have e4 := scuts_ev (fx := fx) (F := F) (s.drop 4) [62] (by rw [List.length_drop]; omega)
  refine run ⟨?_⟩
  refine wq_loop (α := Nat) (fun j => 2 - j) (fun j => [(0, str s), (12, .d (.sl [.str mutT, .str [38]])), (13, i64 2), (14, i64 j)]) (fun _ => []) (fun j => j ≤ 2 ∧ (1 ≤ j → preB s mutT = false) ∧ (2 ≤ j → preB s [38] = false)) ?_ 0 ⟨Nat.zero_le _, by omega, by omega⟩ rfl rfl
  rintro j ⟨hj, h1, h2⟩
  unfold inM
  rcases (show j = 0 ∨ j = 1 ∨ j = 2 by omega) with rfl | rfl | rfl
  · cases c1 : preB s mutT with
    | true =>
      rw [c1] at e1
      repeat' (first | refine run ⟨?_⟩ | refine ca (e1 _) ?_ | fail)
      exact rfl
    | false =>
      rw [c1] at e1
      repeat' (first | refine run ⟨?_⟩ | refine ca (e1 _) ?_ | fail)
      exact ⟨1, ⟨by omega, fun _ => rfl, by omega⟩, by omega, rfl, rfl⟩
  · rw [h1 (by omega)]
    cases c1 : preB s [38] with
    | true =>
      rw [c1] at e2
      repeat' (first | refine run ⟨?_⟩ | refine ca (e2 _) ?_ | fail)
      exact rfl
    | false =>
      rw [c1] at e2
      repeat' (first | refine run ⟨?_⟩ | refine ca (e2 _) ?_ | fail)
      exact ⟨2, ⟨by omega, fun _ => rfl, fun _ => rfl⟩, by omega, rfl, rfl⟩
  · rw [h1 (by omega), h2 (by omega)]
    unfold boxB
    cases c1 : preB s boxT with
    | false =>
      rw [c1] at e3
      repeat' (first | refine run ⟨?_⟩ | refine ca (e3 _) ?_ | fail)
      exact rfl
    | true =>
      rw [c1] at e3
      cases c2 : sufB (s.drop 4) [62] with
      | false =>
        rw [c2] at e4
        repeat' (first | refine run ⟨?_⟩ | refine ca (e3 _) ?_ | refine ca (e4 _) ?_ | fail)
        exact rfl
      | true =>
        rw [c2] at e4
        repeat' (first | refine run ⟨?_⟩ | refine ca (e3 _) ?_ | refine ca (e4 _) ?_ | fail)
        exact rfl
end
end Go.Vm.Typ
namespace Go.Vm.Typ
open Go Go.Vm Go.Proofs Go.Vm.Ip
set_option maxRecDepth 10000
section
variable {fx : Nat → Option Obj} {F : Nat → Option VFun}
set_option maxHeartbeats 1000000 in
theorem tfields_ev (hF : F 50 = some (.prim primClone)) (x : Its) (hx : Fine x) (s : S) (H : Hp) : evF (pgL fx F) n_types_fields [.d x.D, str s] H = some (.tup [.d (fldsD (flM x s)), i64 (kndI x s)], H) := by
  have e1 := struct_ev (fx := fx) hF x hx s
  have e2 := enum_ev (fx := fx) hF x hx s
  refine evF_wq (t_types_fields (F := F)) rfl rfl ?_ H
  unfold flM kndI
  cases c1 : known (nS x) s with
  | true =>
    rw [c1] at e1
    generalize nam x.ss s = y at e1
    repeat' (first | refine run ⟨?_⟩ | refine ca (e1 _) ?_ | fail)
    exact rfl
  | false =>
    rw [c1] at e1
    generalize nam x.ss s = y at e1
    cases c2 : known (nE x) s with
    | true =>
      rw [c2] at e2
      generalize nam x.es s = z at e2
      repeat' (first | refine run ⟨?_⟩ | refine ca (e1 _) ?_ | refine ca (e2 _) ?_ | fail)
      exact rfl
    | false =>
      rw [c2] at e2
      generalize nam x.es s = z at e2
      repeat' (first | refine run ⟨?_⟩ | refine ca (e1 _) ?_ | refine ca (e2 _) ?_ | fail)
      exact rfl
theorem knd_kn (x : Its) (s : S) : (!decide (kndI x s = 0)) = kn x s := by
  unfold kndI kn
  cases known (nS x) s <;> cases known (nE x) s <;> rfl
set_option maxHeartbeats 1000000 in
theorem tbare_ev (hF : F 50 = some (.prim primClone)) (x : Its) (hx : Fine x) (s : S) (hs : s.length ≤ mx) (H : Hp) : evF (pgL fx F) n_types_bare [.d x.D, str s] H = some (boo (bareB (kn x) s), H) := by
  have hs' : s.length ≤ 140737488355328 := hs
  refine evF_wq (t_types_bare (F := F)) rfl rfl ?_ H
  refine run ⟨?_⟩
  refine wq_loop (α := S) (fun t => t.length) (fun t => [(1, str t), (2, .ptr 0 0)]) (fun _ => [IB x]) (fun t => t.length ≤ s.length ∧ bareB (kn x) s = bareB (kn x) t) ?_ s ⟨Nat.le_refl _, rfl⟩ rfl rfl
  rintro t ⟨ht, hinv⟩
  rw [hinv, bareB_eq]
  have e1 := shasp_ev (fx := fx) (F := F) t boxT
  have e2 := shass_ev (fx := fx) (F := F) t [62] (by omega)
  rw [boxB_and]
  cases c1 : preB t boxT && sufB t [62] with
  | true =>
    rw [Bool.and_eq_true] at c1
    have c3 : boxB t = true := by rw [boxB_and, c1.1, c1.2]; rfl
    rw [c1.1] at e1
    rw [c1.2] at e2
    have hl := box_len c3
    have hw : IntKind.i64.wrap (((t.length : Nat) : Int) - 1) = ((t.length - 1 : Nat) : Int) := by rw [i64w (by omega)]; omega
    have hn : (0 : Int) ≤ IntKind.i64.wrap (((t.length : Nat) : Int) - 1) := by rw [hw]; omega
    have hb : (4 : Nat) ≤ (IntKind.i64.wrap (((t.length : Nat) : Int) - 1)).toNat ∧ (IntKind.i64.wrap (((t.length : Nat) : Int) - 1)).toNat ≤ t.length := by rw [hw]; omega
    have hv : (t.drop 4).take ((t.drop 4).length - 1) = (t.take (t.length - 1)).drop 4 := by rw [List.drop_take, List.length_drop, show t.length - 4 - 1 = t.length - 1 - 4 by omega]
    rw [hv] at hl ⊢
    repeat' (first | refine run ⟨?_⟩ | refine ca (e1 _) ?_ | refine ca (e2 _) ?_ | refine And.intro (by decide) ?_ | refine And.intro hn ?_ | refine And.intro hb ?_ | fail)
    refine ⟨_, ⟨?_, rfl⟩, ?_, by rw [hw] <;> rfl, rfl⟩
    · omega
    · show (List.drop 4 _).length < _
      omega
  | false =>
    rw [if_neg (by simp)]
    have ef := tfields_ev (fx := fx) hF x hx t
    rw [← knd_kn x t]
    have e1' : preB t boxT = false ∨ (preB t boxT = true ∧ sufB t [62] = false) := by
      cases h : preB t boxT with
      | false => exact .inl rfl
      | true => rw [h, Bool.true_and] at c1; exact .inr ⟨rfl, c1⟩
    unfold coreB
    generalize flM x t = l at ef
    generalize kndI x t = k at ef ⊢
    rcases e1' with g | ⟨g, g2⟩
    · rw [g] at e1
      by_cases c5 : t = i64T
      · rw [decide_eq_true c5]
        have c5' : t = [105, 54, 52] := c5
        repeat' (first | refine run ⟨?_⟩ | refine ca (e1 _) ?_ | fail)
        exact rfl
      rw [decide_eq_false c5]
      have c5' : ¬ t = [105, 54, 52] := c5
      by_cases c6 : t = boolT
      · rw [decide_eq_true c6]
        have c6' : t = [98, 111, 111, 108] := c6
        repeat' (first | refine run ⟨?_⟩ | refine ca (e1 _) ?_ | fail)
        exact rfl
      rw [decide_eq_false c6]
      have c6' : ¬ t = [98, 111, 111, 108] := c6
      by_cases c7 : t = unitT
      · rw [decide_eq_true c7]
        have c7' : t = [40, 41] := c7
        repeat' (first | refine run ⟨?_⟩ | refine ca (e1 _) ?_ | fail)
        exact rfl
      rw [decide_eq_false c7]
      have c7' : ¬ t = [40, 41] := c7
      repeat' (first | refine run ⟨?_⟩ | refine ca (e1 _) ?_ | refine ca (ef _) ?_ | fail)
      exact rfl
    · rw [g] at e1; rw [g2] at e2
      by_cases c5 : t = i64T
      · rw [decide_eq_true c5]
        have c5' : t = [105, 54, 52] := c5
        repeat' (first | refine run ⟨?_⟩ | refine ca (e1 _) ?_ | refine ca (e2 _) ?_ | fail)
        exact rfl
      rw [decide_eq_false c5]
      have c5' : ¬ t = [105, 54, 52] := c5
      by_cases c6 : t = boolT
      · rw [decide_eq_true c6]
        have c6' : t = [98, 111, 111, 108] := c6
        repeat' (first | refine run ⟨?_⟩ | refine ca (e1 _) ?_ | refine ca (e2 _) ?_ | fail)
        exact rfl
      rw [decide_eq_false c6]
      have c6' : ¬ t = [98, 111, 111, 108] := c6
      by_cases c7 : t = unitT
      · rw [decide_eq_true c7]
        have c7' : t = [40, 41] := c7
        repeat' (first | refine run ⟨?_⟩ | refine ca (e1 _) ?_ | refine ca (e2 _) ?_ | fail)
        exact rfl
      rw [decide_eq_false c7]
      have c7' : ¬ t = [40, 41] := c7
      repeat' (first | refine run ⟨?_⟩ | refine ca (e1 _) ?_ | refine ca (e2 _) ?_ | refine ca (ef _) ?_ | fail)
      exact rfl
theorem tis_ev (hF : F 50 = some (.prim primClone)) (x : Its) (hx : Fine x) (s : S) (hs : s.length ≤ mx) (H : Hp) : evF (pgL fx F) n_types_is [.d x.D, str s] H = some (boo (isB (kn x) s), H) := by
  refine evF_wq (t_types_is (F := F)) rfl rfl ?_ H
  have e1 := isRef_ev (fx := fx) (F := F) s
  have e2 := tInner_ev (fx := fx) (F := F) s hs
  have e3 := tbare_ev (fx := fx) hF x hx (offR s) (Nat.le_trans (offR_len s) hs)
  unfold isB
  rw [offR_eq] at e3 ⊢
  cases c1 : preB s [38] with
  | true =>
    rw [c1] at e1
    rw [c1, if_pos rfl] at e3
    repeat' (first | refine run ⟨?_⟩ | refine ca (e1 _) ?_ | refine ca (e2 _) ?_ | refine ca (e3 _) ?_ | fail)
    exact rfl
  | false =>
    rw [c1] at e1
    rw [c1, if_neg (by decide)] at e3
    repeat' (first | refine run ⟨?_⟩ | refine ca (e1 _) ?_ | refine ca (e2 _) ?_ | refine ca (e3 _) ?_ | fail)
    exact rfl
end
noncomputable def askI (x : Its) (s : S) : Int := if chkB x then (if isB (kn x) s then 0 else 1) else 7
section
variable {fx : Nat → Option Obj}
theorem fit_ev (x : Its) (hx : Fine x) (s : S) (hs : s.length ≤ mx) (H : Hp) : evF (pgL fx F2) n_types_fit [.d x.D, str s] H = some (i64 (askI x s), H) := by
  refine evF_wq (t_types_fit (F := F2)) rfl rfl ?_ H
  have e1 := check_ev (fx := fx) x hx
  have e2 := tis_ev (fx := fx) F2_50 x hx s hs
  unfold askI
  cases c1 : chkB x with
  | true =>
    rw [c1] at e1
    cases c2 : isB (kn x) s with
    | true =>
      rw [c2] at e2
      repeat' (first | refine run ⟨?_⟩ | refine ca (e1 _) ?_ | refine ca (e2 _) ?_ | fail)
      exact rfl
    | false =>
      rw [c2] at e2
      repeat' (first | refine run ⟨?_⟩ | refine ca (e1 _) ?_ | refine ca (e2 _) ?_ | fail)
      exact rfl
  | false =>
    rw [c1] at e1
    repeat' (first | refine run ⟨?_⟩ | refine ca (e1 _) ?_ | fail)
    exact rfl
theorem tRight_ev (x : Its) (hx : Fine x) (s : S) (hs : s.length ≤ mx) (H : Hp) : evF (pgL fx F2) n_types_Right [.d x.D, str s] H = some (boo (decide (askI x s = 0)), H) := by
  refine evF_wq (t_types_Right (F := F2)) rfl rfl ?_ H
  have e1 := fit_ev (fx := fx) x hx s hs
  generalize askI x s = k at e1 ⊢
  repeat' (first | refine run ⟨?_⟩ | refine ca (e1 _) ?_ | fail)
  exact rfl
end
end Go.Vm.Typ
