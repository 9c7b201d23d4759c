import Derived.Test.YtpgpjenfnbcclaaTypV9
import Derived.Test.YtpgpjenfnbcclaaTypV7
set_option linter.unusedSimpArgs false
set_option linter.unusedVariables false
namespace Go.Vm.Typ
open Go Go.Vm Go.Proofs Go.Vm.Ip
open Go.Vm.Lex (nameB)
set_option maxRecDepth 10000
section
variable {fx : Nat → Option Obj} {F : Nat → Option VFun}
theorem fl_S {x : Its} {s : S} (h : known (nS x) s = true) : flM x s = (nam x.ss s).fs := by unfold flM; rw [if_pos h]
theorem fl_E {x : Its} {s : S} (h : known (nS x) s = false) (h2 : known (nE x) s = true) : flM x s = (nam x.es s).fs := by unfold flM; rw [h, h2]; rfl
set_option maxHeartbeats 4000000 in
theorem rSize_s (x : Its) (hx : Fine x) (ok : Okay x) : ∀ (f : Nat) (s : S), deepOk x f s → ∀ H, evF (pgL fx F) n_ref15_Size [.d x.D, str s] H = some (i64 (szF x f s).1, H)
  | 0, _, h, _ => h.elim
  | f + 1, s, hdeep, H => by
    have ih := fun (y : S) (hy : y ∈ (heldM x s).1) => rSize_s x hx ok f y (hdeep y hy)
    have dy := fun (y : S) (hy : y ∈ (heldM x s).1) => ok.sz1 (hdeep y hy)
    have d0 := ok.sz1 hdeep
    have hl := (fl_fine hx s).1
    have hl' : (flM x s).length ≤ 4398046511104 := hl
    have e1 := rStruct_ev (fx := fx) (F := F) x hx s
    have e2 := rEnum_ev (fx := fx) (F := F) x hx s
    have h0 : ∀ y, 0 ≤ (szF x f y).1 := fun y => (szF_bound x f y).1
    have hne : known (nS x) s = true → ∀ f ∈ flM x s, f.t ≠ [] := fun h f hf => by
      rw [fl_S h] at hf; exact ok.nf h hf
    rw [szF] at d0 ⊢
    cases cS : known (nS x) s with
    | true =>
      have cu : ¬ s = unitT := ok.nu (by unfold kn; rw [cS]; rfl)
      have cu' : ¬ s = [40, 41] := cu
      obtain ⟨i, hi, hil, hiy⟩ := locR_yes (l := x.ss) cS
      replace hi : locR (nS x) s = i := hi
      have pi := gN hil
      have hne := hne cS
      have hfl := fl_S cS
      rw [hi] at e1
      rw [held_S ok cS] at ih dy d0 ⊢
      simp only [Bool.false_eq_true, if_false, cS, if_true] at d0 ⊢
      rw [hiy] at pi
      rw [hfl] at ih dy d0 hl hl' hne ⊢
      revert pi ih dy d0 hl hl' hne
      generalize nam x.ss s = y
      obtain ⟨yn, l⟩ := y
      intro ih dy hl hl' pi hne d0
      dsimp only at ih dy d0 hl hl' hne ⊢
      have hst0 : ∀ j, j ≤ l.length → someT (l.take j) = (l.take j).map Fld.t := fun j hj => someT_all fun f hf => hne f (List.mem_of_mem_take hf)
      have i0 : 0 ≤ (i : Int) := by omega
      refine evF_wq (t_ref15_Size (F := F)) rfl rfl ?_ H
      repeat' (first | refine run ⟨?_⟩ | refine ca (e1 _) ?_ | refine pickD pi ?_ | fail)
      refine wq_loop (α := Nat × Int) (fun a => l.length - a.1) (fun a => [(2, .ptr 0 0), (6, i64 a.2), (26, .d (fldsD l)), (27, i64 l.length), (28, i64 a.1)]) (fun _ => [IB x]) (fun a => a.1 ≤ l.length ∧ a.2 = ((someT (l.take a.1)).foldl (fun a y => addS a (szF x f y)) (0, 1)).1) ?_ (0, 0) ⟨Nat.zero_le _, rfl⟩ (by show [_, _, _, _, _] = _; rw [List.length_map] <;> rfl) rfl
      rintro ⟨j, sm⟩ ⟨hj, hs⟩
      dsimp only at hj hs
      by_cases h : j < l.length
      · have h' : (j : Int) < (l.length : Int) := by omega
        have pj := gFl h
        have hst := someT_succ h
        have hn1 := hne _ (getD_mem h)
        have hin : (l.getD j default).t ∈ someT l := someT_mem.2 ⟨hn1, l.getD j default, getD_mem h, rfl⟩
        have hle : ((someT (l.take (j + 1))).foldl (fun a y => addS a (szF x f y)) (0, 1)).1 ≤ ((someT l).foldl (fun a y => addS a (szF x f y)) (0, 1)).1 := by
          have e : someT l = someT (l.take (j + 1)) ++ someT (l.drop (j + 1)) := by
            have e1 : l = l.take (j + 1) ++ l.drop (j + 1) := (List.take_append_drop _ _).symm
            have e2 : someT (l.take (j + 1) ++ l.drop (j + 1)) = someT (l.take (j + 1)) ++ someT (l.drop (j + 1)) := by
              unfold someT; rw [List.map_append, List.filter_append]
            rw [← e2, ← e1]
          rw [e, List.foldl_append]
          exact addS_pre h0 _ _ (addS_fold (szF_bound x f) _ _ (by decide) (by decide) (by decide) (by decide)).2.1
        rw [if_neg hn1] at hst
        revert pj hst hin
        generalize l.getD j default = y
        obtain ⟨n, t⟩ := y
        intro pj hst hin
        dsimp only at hst hin
        have ew := ih t hin
        have dt := dy t hin
        rw [hst, List.foldl_append] at hle
        have ha := addS_fold (szF_bound x f) (someT (l.take j)) (0, 1) (by decide) (by decide) (by decide) (by decide)
        have hs2 : ((someT (l.take (j + 1))).foldl (fun a y => addS a (szF x f y)) (0, 1)).1 = sm + (szF x f t).1 := by
          rw [hst, List.foldl_append, hs]
          exact addS_one (Int.le_trans hle d0.2)
        rw [← hs] at ha
        revert ew dt hs2
        generalize szF x f t = v
        intro ew dt hs2
        repeat' (first | refine run ⟨?_⟩ | refine pickD pj ?_ | refine ca (ew _) ?_ | fail)
        exact ⟨(j + 1, sm + v.1), ⟨by show j + 1 ≤ _; omega, hs2.symm⟩, by show _ - (j + 1) < _ - j; omega, by dsimp only; rw [i64w (show -9223372036854775808 ≤ sm + v.1 ∧ sm + v.1 ≤ 9223372036854775807 by omega), i64w (by omega)] <;> rfl, rfl⟩
      · have h' : ¬ (j : Int) < (l.length : Int) := by omega
        obtain rfl : j = l.length := by omega
        rw [List.take_length] at hs
        refine run ⟨?_⟩
        rw [hs]; exact rfl
    | false =>
    have e1' := locR_no cS
    rw [e1'] at e1
    cases cE : known (nE x) s with
    | true =>
      have cu : ¬ s = unitT := ok.nu (by unfold kn; rw [cE, Bool.or_true])
      have cu' : ¬ s = [40, 41] := cu
      obtain ⟨i, hi, hil, hiy⟩ := locR_yes (l := x.es) cE
      replace hi : locR (nE x) s = i := hi
      have pi := gN hil
      have hfl := fl_E cS cE
      rw [hi] at e2
      rw [held_E cS cE] at ih dy d0 ⊢
      simp only [if_true] at d0 ⊢
      rw [hiy] at pi
      rw [hfl] at ih dy d0 hl hl' ⊢
      revert pi ih dy d0 hl hl'
      generalize nam x.es s = y
      obtain ⟨yn, l⟩ := y
      intro ih dy hl hl' pi d0
      dsimp only at ih dy d0 hl hl' ⊢
      have i0 : 0 ≤ (i : Int) := by omega
      refine evF_wq (t_ref15_Size (F := F)) rfl rfl ?_ H
      repeat' (first | refine run ⟨?_⟩ | refine ca (e1 _) ?_ | refine ca (e2 _) ?_ | refine pickD pi ?_ | fail)
      refine wq_loop (α := Nat × Int) (fun a => l.length - a.1) (fun a => [(2, .ptr 0 0), (10, i64 a.2), (50, .d (fldsD l)), (51, i64 l.length), (52, i64 a.1)]) (fun _ => [IB x]) (fun a => a.1 ≤ l.length ∧ 0 ≤ a.2 ∧ a.2 ≤ 64 ∧ 1 + a.2 = ((someT (l.take a.1)).foldl (fun a y => addE a (szF x f y)) (1, 1)).1) ?_ (0, 0) ⟨Nat.zero_le _, by decide, by decide, rfl⟩ (by show [_, _, _, _, _] = _; rw [List.length_map] <;> rfl) rfl
      rintro ⟨j, mo⟩ ⟨hj, hm0, hm1, hs⟩
      dsimp only at hj hs hm0 hm1
      by_cases h : j < l.length
      · have h' : (j : Int) < (l.length : Int) := by omega
        have pj := gFl h
        have hst := someT_succ h
        have hin : (l.getD j default).t ≠ [] → (l.getD j default).t ∈ someT l := fun hn => someT_mem.2 ⟨hn, l.getD j default, getD_mem h, rfl⟩
        revert pj hst hin
        generalize l.getD j default = y
        obtain ⟨n, t⟩ := y
        intro pj hst hin
        dsimp only at hst hin
        by_cases ct : t = []
        · rw [ct] at hst; simp only [if_true] at hst
          repeat' (first | refine run ⟨?_⟩ | refine pickD pj ?_ | fail)
          exact ⟨(j + 1, mo), ⟨by show j + 1 ≤ _; omega, hm0, hm1, by rw [hst]; exact hs⟩, by show _ - (j + 1) < _ - j; omega, by rw [i64w (by omega)] <;> rfl, rfl⟩
        · rw [if_neg ct] at hst
          have ew := ih t (hin ct)
          have dt := dy t (hin ct)
          have hs2 : ((someT (l.take (j + 1))).foldl (fun a y => addE a (szF x f y)) (1, 1)).1 = max (1 + mo) (1 + (szF x f t).1) := by
            rw [hst, List.foldl_append, hs]
            exact addE_one _ _
          revert ew dt hs2
          generalize szF x f t = v
          intro ew dt hs2
          by_cases cm : mo < v.1
          · repeat' (first | refine run ⟨?_⟩ | refine pickD pj ?_ | refine ca (ew _) ?_ | fail)
            exact ⟨(j + 1, v.1), ⟨by show j + 1 ≤ _; omega, by show 0 ≤ v.1; omega, by show v.1 ≤ 64; omega, by rw [hs2]; show 1 + v.1 = _; omega⟩, by show _ - (j + 1) < _ - j; omega, by dsimp only; rw [i64w (by omega)] <;> rfl, rfl⟩
          · repeat' (first | refine run ⟨?_⟩ | refine pickD pj ?_ | refine ca (ew _) ?_ | fail)
            exact ⟨(j + 1, mo), ⟨by show j + 1 ≤ _; omega, hm0, hm1, by rw [hs2]; show 1 + mo = _; omega⟩, by show _ - (j + 1) < _ - j; omega, by dsimp only; rw [i64w (by omega)] <;> rfl, rfl⟩
      · have h' : ¬ (j : Int) < (l.length : Int) := by omega
        obtain rfl : j = l.length := by omega
        rw [List.take_length] at hs
        refine run ⟨?_⟩
        rw [i64w (by dsimp only; omega), ← hs, Int.add_comm]; exact rfl
    | false =>
      rw [locR_no cE] at e2
      rw [held_N cS cE]
      simp only [Bool.false_eq_true, if_false]
      refine evF_wq (t_ref15_Size (F := F)) rfl rfl ?_ H
      by_cases cu : s = unitT
      · have cu' : s = [40, 41] := cu
        rw [if_pos cu]
        refine run ⟨?_⟩
        exact rfl
      · have cu' : ¬ s = [40, 41] := cu
        rw [if_neg cu]
        repeat' (first | refine run ⟨?_⟩ | refine ca (e1 _) ?_ | refine ca (e2 _) ?_ | fail)
        exact rfl
theorem rSize_ev (x : Its) (hx : Fine x) (ok : Okay x) (s : S) (H : Hp) : evF (pgL fx F) n_ref15_Size [.d x.D, str s] H = some (i64 (wsI x s), H) := rSize_s x hx ok _ s (ok.dp s) H
end
end Go.Vm.Typ
namespace Go.Vm.Typ
open Go Go.Vm Go.Proofs Go.Vm.Ip
open Go.Vm.Lex (nameB)
set_option maxRecDepth 10000
section
variable {fx : Nat → Option Obj} {F : Nat → Option VFun}
end
end Go.Vm.Typ
namespace Go.Vm.Typ
open Go Go.Vm Go.Proofs Go.Vm.Ip
open Go.Vm.Lex (nameB)
set_option maxRecDepth 10000
def RightOk (fx : Nat → Option Obj) : Prop := ∀ x : Its, Fine x → ∀ H, evF (pgL fx F2) n_ref14_Right [.d x.D] H = some (boo (chkB x), H)
section
variable {fx : Nat → Option Obj} (hR : RightOk fx)
include hR
theorem rAsked_ev (x : Its) (hx : Fine x) (s : S) (hs : s.length ≤ mx) (H : Hp) : evF (pgL fx F2) n_ref15_Asked [.d x.D, str s] H = some (i64 (askI x s), H) := by
  have e1 := hR x hx
  unfold askI
  refine evF_wq (t_ref15_Asked (F := F2)) rfl rfl ?_ H
  cases c1 : chkB x with
  | true =>
    have e2 := rIs_ev (fx := fx) (F := F2) x hx (okay_of c1).nm s hs
    rw [c1] at e1
    cases c2 : isB (kn x) s with
    | true =>
      rw [c2] at e2
      repeat' (first | refine run ⟨?_⟩ | refine ca (e1 _) ?_ | refine ca (e2 _) ?_ | fail)
      exact rfl
    | false =>
      rw [c2] at e2
      repeat' (first | refine run ⟨?_⟩ | refine ca (e1 _) ?_ | refine ca (e2 _) ?_ | fail)
      exact rfl
  | false =>
    rw [c1] at e1
    repeat' (first | refine run ⟨?_⟩ | refine ca (e1 _) ?_ | fail)
    exact rfl
end
section
variable {fx : Nat → Option Obj}
set_option maxHeartbeats 2000000 in
theorem rStep_ev (x : Its) (hx : Fine x) (ok : Okay x) (s : S) (hs : s.length ≤ mx) (k : Int) (hk : -9223372036854775808 ≤ k ∧ k ≤ 9223372036854775807) (H : Hp) : evF (pgL fx F2) n_ref15_Step [.d x.D, str s, i64 k] H = some (.tup [str (stpM x s k).1, boo (stpM x s k).2], H) := by
  have e4 := rInner_ev (fx := fx) (F := F2) s hs
  have e1 := rStruct_ev (fx := fx) (F := F2) x hx s
  have e2 := rEnum_ev (fx := fx) (F := F2) x hx s
  have hl := (fl_fine hx s).1
  have hl' : (flM x s).length ≤ 4398046511104 := hl
  unfold stpM
  by_cases c1 : k = -1
  · rw [if_pos c1]
    have c2 : ¬ 0 ≤ k := by omega
    generalize inM s = y at e4 ⊢
    refine evF_wq (t_ref15_Step (F := F2)) rfl rfl ?_ H
    repeat' (first | refine run ⟨?_⟩ | refine ca (e4 _) ?_ | fail)
    exact rfl
  rw [if_neg c1]
  by_cases c2 : 0 ≤ k
  · rw [if_pos c2]
    cases cS : known (nS x) s with
    | false =>
      rw [locR_no cS] at e1
      rw [if_neg (by simp)]
      refine evF_wq (t_ref15_Step (F := F2)) rfl rfl ?_ H
      repeat' (first | refine run ⟨?_⟩ | refine ca (e1 _) ?_ | fail)
      exact rfl
    | true =>
      obtain ⟨i, hi, hil, hiy⟩ := locR_yes (l := x.ss) cS
      replace hi : locR (nS x) s = i := hi
      have pi := gN hil
      have hfl := fl_S cS
      rw [hi] at e1
      rw [hiy] at pi
      rw [hfl] at hl hl' ⊢
      revert hl hl' pi
      generalize nam x.ss s = y
      obtain ⟨yn, l⟩ := y
      intro hl hl' pi
      dsimp only at hl hl' ⊢
      have hlm : (l.map Fld.D).length = l.length := List.length_map ..
      have i0 : ¬ (i : Int) < 0 := by omega
      by_cases c3 : k < l.length
      · have c3' : ¬ ((((l.map Fld.D).length : Nat) : Int) ≤ k) := by rw [hlm]; omega
        have hk' : k.toNat < l.length := by omega
        have pj : 0 ≤ k ∧ (l.map Fld.D)[k.toNat]? = some (l.getD k.toNat default).D := by
          refine ⟨c2, ?_⟩
          rw [List.getElem?_map, List.getElem?_eq_getElem hk', List.getD_eq_getElem?_getD, List.getElem?_eq_getElem hk']; rfl
        rw [if_pos ⟨rfl, c3⟩]
        revert pj
        generalize l.getD k.toNat default = y
        obtain ⟨n, t⟩ := y
        intro pj
        dsimp only
        refine evF_wq (t_ref15_Step (F := F2)) rfl rfl ?_ H
        repeat' (first | refine run ⟨?_⟩ | refine ca (e1 _) ?_ | refine pickD pi ?_ | refine pickD pj ?_ | fail)
        exact rfl
      · have c3' : (((l.map Fld.D).length : Nat) : Int) ≤ k := by rw [hlm]; omega
        rw [if_neg (by rintro ⟨_, h⟩; exact c3 h)]
        refine evF_wq (t_ref15_Step (F := F2)) rfl rfl ?_ H
        repeat' (first | refine run ⟨?_⟩ | refine ca (e1 _) ?_ | refine pickD pi ?_ | fail)
        exact rfl
  · rw [if_neg c2]
    have hw : IntKind.i64.wrap (-2 - k) = -2 - k := i64w (by omega)
    cases cE : known (nE x) s with
    | false =>
      rw [locR_no cE] at e2
      rw [if_neg (by simp)]
      refine evF_wq (t_ref15_Step (F := F2)) rfl rfl ?_ H
      repeat' (first | refine run ⟨?_⟩ | refine ca (e2 _) ?_ | fail)
      exact rfl
    | true =>
      have cS : known (nS x) s = false := by
        cases cS : known (nS x) s with
        | false => rfl
        | true => rw [ok.ap s cS] at cE; cases cE
      obtain ⟨i, hi, hil, hiy⟩ := locR_yes (l := x.es) cE
      replace hi : locR (nE x) s = i := hi
      have pi := gN hil
      have hfl := fl_E cS cE
      rw [hi] at e2
      rw [hiy] at pi
      rw [hfl] at hl hl' ⊢
      revert hl hl' pi
      generalize nam x.es s = y
      obtain ⟨yn, l⟩ := y
      intro hl hl' pi
      dsimp only at hl hl' ⊢
      have hlm : (l.map Fld.D).length = l.length := List.length_map ..
      have i0 : ¬ (i : Int) < 0 := by omega
      have hw2 : IntKind.i64.wrap (IntKind.i64.wrap (-2 - (((l.map Fld.D).length : Nat) : Int)) + 1) = -1 - l.length := by
        rw [hlm, i64w (show -9223372036854775808 ≤ -2 - (l.length : Int) ∧ -2 - (l.length : Int) ≤ 9223372036854775807 by omega), i64w (by omega)]; omega
      by_cases c3 : -2 - k < l.length
      · have c3' : ¬ (k < IntKind.i64.wrap (IntKind.i64.wrap (-2 - (((l.map Fld.D).length : Nat) : Int)) + 1)) := by rw [hw2]; omega
        have hk' : (-2 - k).toNat < l.length := by omega
        have pj : 0 ≤ IntKind.i64.wrap (-2 - k) ∧ (l.map Fld.D)[(IntKind.i64.wrap (-2 - k)).toNat]? = some (l.getD (-2 - k).toNat default).D := by
          rw [hw]
          refine ⟨by omega, ?_⟩
          rw [List.getElem?_map, List.getElem?_eq_getElem hk', List.getD_eq_getElem?_getD, List.getElem?_eq_getElem hk']; rfl
        revert pj
        generalize l.getD (-2 - k).toNat default = y
        obtain ⟨n, t⟩ := y
        intro pj
        dsimp only
        by_cases ct : t = []
        · rw [if_neg (by rintro ⟨_, _, h⟩; exact h ct)]
          refine evF_wq (t_ref15_Step (F := F2)) rfl rfl ?_ H
          repeat' (first | refine run ⟨?_⟩ | refine ca (e2 _) ?_ | refine pickD pi ?_ | refine pickD pj ?_ | fail)
          exact rfl
        · rw [if_pos ⟨rfl, c3, ct⟩]
          refine evF_wq (t_ref15_Step (F := F2)) rfl rfl ?_ H
          repeat' (first | refine run ⟨?_⟩ | refine ca (e2 _) ?_ | refine pickD pi ?_ | refine pickD pj ?_ | fail)
          exact rfl
      · have c3' : k < IntKind.i64.wrap (IntKind.i64.wrap (-2 - (((l.map Fld.D).length : Nat) : Int)) + 1) := by rw [hw2]; omega
        rw [if_neg (by rintro ⟨_, h, _⟩; exact c3 h)]
        refine evF_wq (t_ref15_Step (F := F2)) rfl rfl ?_ H
        repeat' (first | refine run ⟨?_⟩ | refine ca (e2 _) ?_ | refine pickD pi ?_ | fail)
        exact rfl
set_option maxHeartbeats 1000000 in
theorem rPath_ev (x : Its) (hx : Fine x) (ok : Okay x) (s : S) (hs : s.length ≤ mx) (p : List Int) (hp : p.length ≤ mx) (hk : ∀ k ∈ p, -9223372036854775808 ≤ k ∧ k ≤ 9223372036854775807) (H : Hp) : evF (pgL fx F2) n_ref15_Path [.d x.D, str s, intsV p] H = some (.tup [str (pathM x s p).1, boo (pathM x s p).2], H) := by
  have hp' : p.length ≤ 140737488355328 := hp
  refine evF_wq (t_ref15_Path (F := F2)) rfl rfl ?_ H
  refine run ⟨?_⟩
  refine wq_loop (α := S × Nat) (fun a => p.length - a.2) (fun a => [(1, str a.1), (3, .ptr 0 0), (12, intsV p), (13, i64 p.length), (14, i64 a.2)]) (fun _ => [IB x]) (fun a => a.2 ≤ p.length ∧ a.1.length ≤ mx ∧ pathM x s p = pathM x a.1 (p.drop a.2)) ?_ (s, 0) ⟨Nat.zero_le _, hs, rfl⟩ (by show [_, _, _, _, _] = _; rw [List.length_map] <;> rfl) rfl
  rintro ⟨t, j⟩ ⟨hj, ht, hinv⟩
  dsimp only at hj ht hinv
  rw [hinv]
  by_cases h : j < p.length
  · have h' : (j : Int) < (p.length : Int) := by omega
    have pj : 0 ≤ (j : Int) ∧ (p.map (D.int .i64))[(j : Int).toNat]? = some (.int .i64 p[j]) := by
      refine ⟨by omega, ?_⟩
      rw [Int.toNat_natCast, List.getElem?_map, List.getElem?_eq_getElem h]; rfl
    have e2 := rStep_ev (fx := fx) x hx ok t ht p[j] (hk _ (List.getElem_mem _))
    have hl2 := stpM_len hx ht p[j]
    rw [List.drop_eq_getElem_cons h, pathM]
    revert pj e2 hl2
    generalize p[j] = k
    intro pj e2 hl2
    revert e2 hl2
    generalize stpM x t k = v
    obtain ⟨u, b⟩ := v
    intro e2 hl2
    dsimp only at e2 hl2 ⊢
    cases b with
    | true =>
      rw [if_pos rfl]
      repeat' (first | refine run ⟨?_⟩ | refine pickD pj ?_ | refine ca (e2 _) ?_ | fail)
      exact ⟨(u, j + 1), ⟨by show j + 1 ≤ _; omega, hl2, rfl⟩, by show _ - (j + 1) < _ - j; omega, by dsimp only; rw [i64w (by omega)] <;> rfl, rfl⟩
    | false =>
      rw [if_neg (by decide)]
      repeat' (first | refine run ⟨?_⟩ | refine pickD pj ?_ | refine ca (e2 _) ?_ | fail)
      exact rfl
  · have h' : ¬ (j : Int) < (p.length : Int) := by omega
    obtain rfl : j = p.length := by omega
    rw [List.drop_length, pathM]
    refine run ⟨?_⟩
    exact rfl
end
section
variable {fx : Nat → Option Obj} (hR : RightOk fx)
include hR
theorem rAt_ev (x : Its) (hx : Fine x) (s : S) (hs : s.length ≤ mx) (p : List Int) (hp : p.length ≤ mx) (hk : ∀ k ∈ p, -9223372036854775808 ≤ k ∧ k ≤ 9223372036854775807) (H : Hp) : evF (pgL fx F2) n_ref15_At [.d x.D, str s, intsV p] H = some (.tup [str (atS x s p), i64 (atI x s p)], H) := by
  have e1 := rAsked_ev hR x hx s hs
  have hlm : (p.map (D.int .i64)).length = p.length := List.length_map ..
  have hpn := path_none (x := x) (s := s) (p := p)
  unfold atS atI
  by_cases c : askI x s = 0
  · have e2 := rPath_ev (fx := fx) x hx (okay_of (ask_ok c).1) s hs p hp hk
    rw [c] at e1 ⊢
    simp only [true_and, if_true]
    revert e2 hpn
    generalize pathM x s p = v
    obtain ⟨t, b⟩ := v
    intro hpn e2
    dsimp only at e2 hpn ⊢
    by_cases c1 : p.length ≤ 100
    · have c1' : ¬ ((100 : Int) < (((p.map (D.int .i64)).length : Nat) : Int)) := by rw [hlm]; omega
      rw [if_pos c1, if_pos c1]
      refine evF_wq (t_ref15_At (F := F2)) rfl rfl ?_ H
      cases b with
      | true =>
        repeat' (first | refine run ⟨?_⟩ | refine ca (e1 _) ?_ | refine ca (e2 _) ?_ | fail)
        exact rfl
      | false =>
        rw [hpn rfl]
        repeat' (first | refine run ⟨?_⟩ | refine ca (e1 _) ?_ | refine ca (e2 _) ?_ | fail)
        exact rfl
    · have c1' : (100 : Int) < (((p.map (D.int .i64)).length : Nat) : Int) := by rw [hlm]; omega
      rw [if_neg c1, if_neg c1]
      refine evF_wq (t_ref15_At (F := F2)) rfl rfl ?_ H
      repeat' (first | refine run ⟨?_⟩ | refine ca (e1 _) ?_ | fail)
      exact rfl
  · rw [if_neg c, if_neg (fun h => c h.1)]
    generalize askI x s = k at c e1 ⊢
    have c' : (!decide (k = 0)) = true := by rw [decide_eq_false c]; rfl
    refine evF_wq (t_ref15_At (F := F2)) rfl rfl ?_ H
    repeat' (first | refine run ⟨?_⟩ | refine ca (e1 _) ?_ | fail)
    exact rfl
set_option maxHeartbeats 1000000 in
theorem rOffset_ev (x : Its) (hx : Fine x) (s : S) (hs : s.length ≤ mx) (k : Int) (H : Hp) : evF (pgL fx F2) n_ref15_Offset [.d x.D, str s, i64 k] H = some (.tup [i64 (if askI x s = 0 ∧ offB x s k = true then offI x s k.toNat else 0), i64 (if askI x s = 0 then (if offB x s k then 0 else 9) else askI x s)], H) := by
  have e1 := rAsked_ev hR x hx s hs
  by_cases c : askI x s = 0
  · have ok := okay_of (ask_ok c).1
    have ew := rSize_ev (fx := fx) (F := F2) x hx ok
    have es := rStruct_ev (fx := fx) (F := F2) x hx s
    have hl := (fl_fine hx s).1
    have hl' : (flM x s).length ≤ 4398046511104 := hl
    rw [c] at e1 ⊢
    simp only [true_and, if_true]
    unfold offB
    cases cS : known (nS x) s with
    | false =>
      rw [locR_no cS] at es
      simp only [Bool.false_and, Bool.false_eq_true, if_false]
      refine evF_wq (t_ref15_Offset (F := F2)) rfl rfl ?_ H
      repeat' (first | refine run ⟨?_⟩ | refine ca (e1 _) ?_ | refine ca (es _) ?_ | fail)
      exact rfl
    | true =>
      have hfl : flM x s = (nam x.ss s).fs := by unfold flM; rw [if_pos cS]
      have hob := off_bound ok cS
      have hos := fun j => off_succ ok cS (k := j)
      have ho0 := off_zero x s
      obtain ⟨i, hi, hil, hiy⟩ := locR_yes (l := x.ss) cS
      replace hi : locR (nS x) s = i := hi
      have pi := gN hil
      rw [hi] at es
      rw [hiy] at pi
      rw [hfl] at hl hl' hos ⊢
      revert pi hl hl' hos
      generalize nam x.ss s = y
      obtain ⟨yn, l⟩ := y
      intro hl hl' hos pi
      dsimp only at hl hl' hos ⊢
      have hlm : (l.map Fld.D).length = l.length := List.length_map ..
      have i0 : ¬ (i : Int) < 0 := by omega
      simp only [Bool.true_and, decide_eq_true_eq]
      by_cases c1 : k < 0
      · rw [if_neg (by omega), if_neg (by omega)]
        refine evF_wq (t_ref15_Offset (F := F2)) rfl rfl ?_ H
        repeat' (first | refine run ⟨?_⟩ | refine ca (e1 _) ?_ | refine ca (es _) ?_ | fail)
        exact rfl
      by_cases c2 : k < l.length
      · rw [if_pos (by omega), if_pos (by omega)]
        have c2' : ¬ ((((l.map Fld.D).length : Nat) : Int) ≤ k) := by rw [hlm]; omega
        obtain ⟨n, rfl⟩ : ∃ n : Nat, k = n := ⟨k.toNat, by omega⟩
        rw [Int.toNat_natCast]
        have hn : (0 : Int) ≤ (n : Int) := by omega
        have hb : (n : Int).toNat ≤ (l.map Fld.D).length := by rw [hlm]; omega
        refine evF_wq (t_ref15_Offset (F := F2)) rfl rfl ?_ H
        repeat' (first | refine run ⟨?_⟩ | refine ca (e1 _) ?_ | refine ca (es _) ?_ | refine pickD pi ?_ | refine And.intro hn ?_ | refine And.intro ⟨Nat.zero_le _, hb, rfl⟩ ?_ | fail)
        refine wq_loop (α := Nat) (fun a => n - a) (fun a => [(3, .ptr 0 0), (10, i64 (offI x s a)), (46, .d (fldsD (l.take n))), (47, i64 n), (48, i64 a)]) (fun _ => [IB x]) (fun a => a ≤ n) ?_ 0 (Nat.zero_le _) (by rw [ho0]; show [_, _, _, _, _] = _; rw [List.drop_zero, Int.toNat_natCast, ← List.map_take, List.length_map, List.length_take, Nat.min_eq_left (show n ≤ l.length by omega)] <;> rfl) rfl
        rintro j hj
        by_cases h : j < n
        · have h' : (j : Int) < (n : Int) := by omega
          have pj : 0 ≤ (j : Int) ∧ ((l.take n).map Fld.D)[(j : Int).toNat]? = some (l.getD j default).D := by
            have := gFl (l := l.take n) (i := j) (by rw [List.length_take]; omega)
            rw [show (l.take n).getD j default = l.getD j default by
              rw [List.getD_eq_getElem?_getD, List.getD_eq_getElem?_getD, List.getElem?_take_of_lt h]] at this
            exact this
          have h1 := hos j (by omega)
          have h2 := hob (j + 1)
          have h3 := ew (l.getD j default).t
          revert pj h1 h3
          generalize l.getD j default = y
          obtain ⟨fn, t⟩ := y
          intro pj h1 h3
          dsimp only at h1 h3
          revert h1 h3
          generalize wsI x t = w
          generalize offI x s j = o
          intro h1 h3
          repeat' (first | refine run ⟨?_⟩ | refine pickD pj ?_ | refine ca (h3 _) ?_ | fail)
          exact ⟨j + 1, by omega, by omega, by rw [h1, i64w (show -9223372036854775808 ≤ (j : Int) + 1 ∧ (j : Int) + 1 ≤ 9223372036854775807 by omega), i64w (by omega)] <;> rfl, rfl⟩
        · have h' : ¬ (j : Int) < (n : Int) := by omega
          obtain rfl : j = n := by omega
          refine run ⟨?_⟩
          exact rfl
      · rw [if_neg (by omega), if_neg (by omega)]
        have c2' : (((l.map Fld.D).length : Nat) : Int) ≤ k := by rw [hlm]; omega
        refine evF_wq (t_ref15_Offset (F := F2)) rfl rfl ?_ H
        repeat' (first | refine run ⟨?_⟩ | refine ca (e1 _) ?_ | refine ca (es _) ?_ | refine pickD pi ?_ | fail)
        exact rfl
  · rw [if_neg c, if_neg (fun h => c h.1)]
    generalize askI x s = k at c e1 ⊢
    have c' : (!decide (k = 0)) = true := by rw [decide_eq_false c]; rfl
    refine evF_wq (t_ref15_Offset (F := F2)) rfl rfl ?_ H
    repeat' (first | refine run ⟨?_⟩ | refine ca (e1 _) ?_ | fail)
    exact rfl
end
end Go.Vm.Typ
