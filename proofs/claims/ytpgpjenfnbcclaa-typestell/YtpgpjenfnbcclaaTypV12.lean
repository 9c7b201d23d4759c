import Derived.Test.YtpgpjenfnbcclaaTypV9
import Derived.Test.YtpgpjenfnbcclaaTypV7
set_option linter.unusedSimpArgs false
set_option linter.unusedVariables false
namespace Go.Vm.Typ
open Go Go.Vm Go.Proofs Go.Vm.Ip
open Go.Vm.Lex (nameB)
set_option maxRecDepth 10000
section
variable {fx : Nat → Option Obj} {F : Nat → Option VFun}
theorem fl_S {x : Its} {s : S} (h : known (nS x) s = true) : flM x s = (nam x.ss s).fs := by unfold flM; rw [if_pos h]
theorem fl_E {x : Its} {s : S} (h : known (nS x) s = false) (h2 : known (nE x) s = true) : flM x s = (nam x.es s).fs := by unfold flM; rw [h, h2]; rfl
set_option maxHeartbeats 4000000 in
theorem rSize_s (x : Its) (hx : Fine x) (ok : Okay x) : ∀ (f : Nat) (s : S), deepOk x f s → ∀ H, evF (pgL fx F) n_ref15_Size [.d x.D, str s] H = some (i64 (szF x f s).1, H)
  | 0, _, h, _ => h.elim
  | f + 1, s, hdeep, H => by
    have ih := fun (y : S) (hy : y ∈ (heldM x s).1) => rSize_s x hx ok f y (hdeep y hy)
    have dy := fun (y : S) (hy : y ∈ (heldM x s).1) => ok.sz1 (hdeep y hy)
    have d0 := ok.sz1 hdeep
    have hl := (fl_fine hx s).1
    have hl' : (flM x s).length ≤ 4398046511104 := hl
    have e1 := rStruct_ev (fx := fx) (F := F) x hx s
    have e2 := rEnum_ev (fx := fx) (F := F) x hx s
    have h0 : ∀ y, 0 ≤ (szF x f y).1 := fun y => (szF_bound x f y).1
    have hne : known (nS x) s = true → ∀ f ∈ flM x s, f.t ≠ [] := fun h f hf => by
      rw [fl_S h] at hf; exact ok.nf h hf
    rw [szF] at d0 ⊢
    cases cS : known (nS x) s with
    | true =>
      have cu : ¬ s = unitT := ok.nu (by unfold kn; rw [cS]; rfl)
      have cu' : ¬ s = [40, 41] := cu
      obtain ⟨i, hi, hil, hiy⟩ := locR_yes (l := x.ss) cS
      replace hi : locR (nS x) s = i := hi
      have pi := gN hil
      have hne := hne cS
      have hfl := fl_S cS
      rw [hi] at e1
      rw [held_S ok cS] at ih dy d0 ⊢
      simp only [Bool.false_eq_true, if_false, cS, if_true] at d0 ⊢
      rw [hiy] at pi
      rw [hfl] at ih dy d0 hl hl' hne ⊢
      revert pi ih dy d0 hl hl' hne
      generalize nam x.ss s = y
      obtain ⟨yn, l⟩ := y
      intro ih dy hl hl' pi hne d0
      dsimp only at ih dy d0 hl hl' hne ⊢
      have hst0 : ∀ j, j ≤ l.length → someT (l.take j) = (l.take j).map Fld.t := fun j hj => someT_all fun f hf => hne f (List.mem_of_mem_take hf)
      have i0 : 0 ≤ (i : Int) := by omega
      refine evF_wq (t_ref15_Size (F := F)) rfl rfl ?_ H
      repeat' (first | refine run ⟨?_⟩ | refine ca (e1 _) ?_ | refine pickD pi ?_ | fail)
      refine wq_loop (α := Nat × Int) (fun a => l.length - a.1) (fun a => [(2, .ptr 0 0), (6, i64 a.2), (26, .d (fldsD l)), (27, i64 l.length), (28, i64 a.1)]) (fun _ => [IB x]) (fun a => a.1 ≤ l.length ∧ a.2 = ((someT (l.take a.1)).foldl (fun a y => addS a (szF x f y)) (0, 1)).1) ?_ (0, 0) ⟨Nat.zero_le _, rfl⟩ (by show [_, _, _, _, _] = _; rw [List.length_map] <;> rfl) rfl
      rintro ⟨j, sm⟩ ⟨hj, hs⟩
      dsimp only at hj hs
      by_cases h : j < l.length
      · have h' : (j : Int) < (l.length : Int) := by omega
        have pj := gFl h
        have hst := someT_succ h
        have hn1 := hne _ (getD_mem h)
        have hin : (l.getD j default).t ∈ someT l := someT_mem.2 ⟨hn1, l.getD j default, getD_mem h, rfl⟩
        have hle : ((someT (l.take (j + 1))).foldl (fun a y => addS a (szF x f y)) (0, 1)).1 ≤ ((someT l).foldl (fun a y => addS a (szF x f y)) (0, 1)).1 := by
          have e : someT l = someT (l.take (j + 1)) ++ someT (l.drop (j + 1)) := by
            have e1 : l = l.take (j + 1) ++ l.drop (j + 1) := (List.take_append_drop _ _).symm
            have e2 : someT (l.take (j + 1) ++ l.drop (j + 1)) = someT (l.take (j + 1)) ++ someT (l.drop (j + 1)) := by
              unfold someT; rw [List.map_append, List.filter_append]
            rw [← e2, ← e1]
          rw [e, List.foldl_append]
          exact addS_pre h0 _ _ (addS_fold (szF_bound x f) _ _ (by decide) (by decide) (by decide) (by decide)).2.1
        rw [if_neg hn1] at hst
        revert pj hst hin
        generalize l.getD j default = y
        obtain ⟨n, t⟩ := y
        intro pj hst hin
        dsimp only at hst hin
        have ew := ih t hin
        have dt := dy t hin
        rw [hst, List.foldl_append] at hle
        have ha := addS_fold (szF_bound x f) (someT (l.take j)) (0, 1) (by decide) (by decide) (by decide) (by decide)
        have hs2 : ((someT (l.take (j + 1))).foldl (fun a y => addS a (szF x f y)) (0, 1)).1 = sm + (szF x f t).1 := by
          rw [hst, List.foldl_append, hs]
          exact addS_one (Int.le_trans hle d0.2)
        rw [← hs] at ha
        revert ew dt hs2
        generalize szF x f t = v
        intro ew dt hs2
        repeat' (first | refine run ⟨?_⟩ | refine pickD pj ?_ | refine ca (ew _) ?_ | fail)
        exact ⟨(j + 1, sm + v.1), ⟨by show j + 1 ≤ _; omega, hs2.symm⟩, by show _ - (j + 1) < _ - j; omega, by dsimp only; rw [i64w (show -9223372036854775808 ≤ sm + v.1 ∧ sm + v.1 ≤ 9223372036854775807 by omega), i64w (by omega)] <;> rfl, rfl⟩
      · have h' : ¬ (j : Int) < (l.length : Int) := by omega
        obtain rfl : j = l.length := by omega
        rw [List.take_length] at hs
        refine run ⟨?_⟩
        rw [hs]; exact rfl
    | false =>
    have e1' := locR_no cS
    rw [e1'] at e1
    cases cE : known (nE x) s with
    | true =>
      have cu : ¬ s = unitT := ok.nu (by unfold kn; rw [cE, Bool.or_true])
      have cu' : ¬ s = [40, 41] := cu
      obtain ⟨i, hi, hil, hiy⟩ := locR_yes (l := x.es) cE
      replace hi : locR (nE x) s = i := hi
      have pi := gN hil
      have hfl := fl_E cS cE
      rw [hi] at e2
      rw [held_E cS cE] at ih dy d0 ⊢
      simp only [if_true] at d0 ⊢
      rw [hiy] at pi
      rw [hfl] at ih dy d0 hl hl' ⊢
      revert pi ih dy d0 hl hl'
      generalize nam x.es s = y
      obtain ⟨yn, l⟩ := y
      intro ih dy hl hl' pi d0
      dsimp only at ih dy d0 hl hl' ⊢
      have i0 : 0 ≤ (i : Int) := by omega
      refine evF_wq (t_ref15_Size (F := F)) rfl rfl ?_ H
      repeat' (first | refine run ⟨?_⟩ | refine ca (e1 _) ?_ | refine ca (e2 _) ?_ | refine pickD pi ?_ | fail)
      refine wq_loop (α := Nat × Int) (fun a => l.length - a.1) (fun a => [(2, .ptr 0 0), (10, i64 a.2), (50, .d (fldsD l)), (51, i64 l.length), (52, i64 a.1)]) (fun _ => [IB x]) (fun a => a.1 ≤ l.length ∧ 0 ≤ a.2 ∧ a.2 ≤ 64 ∧ 1 + a.2 = ((someT (l.take a.1)).foldl (fun a y => addE a (szF x f y)) (1, 1)).1) ?_ (0, 0) ⟨Nat.zero_le _, by decide, by decide, rfl⟩ (by show [_, _, _, _, _] = _; rw [List.length_map] <;> rfl) rfl
      rintro ⟨j, mo⟩ ⟨hj, hm0, hm1, hs⟩
      dsimp only at hj hs hm0 hm1
      by_cases h : j < l.length
      · have h' : (j : Int) < (l.length : Int) := by omega
        have pj := gFl h
        have hst := someT_succ h
        have hin : (l.getD j default).t ≠ [] → (l.getD j default).t ∈ someT l := fun hn => someT_mem.2 ⟨hn, l.getD j default, getD_mem h, rfl⟩
        revert pj hst hin
        generalize l.getD j default = y
        obtain ⟨n, t⟩ := y
        intro pj hst hin
        dsimp only at hst hin
        by_cases ct : t = []
        · rw [ct] at hst; simp only [if_true] at hst
          repeat' (first | refine run ⟨?_⟩ | refine pickD pj ?_ | fail)
          exact ⟨(j + 1, mo), ⟨by show j + 1 ≤ _; omega, hm0, hm1, by rw [hst]; exact hs⟩, by show _ - (j + 1) < _ - j; omega, by rw [i64w (by omega)] <;> rfl, rfl⟩
        · rw [if_neg ct] at hst
          have ew := ih t (hin ct)
          have dt := dy t (hin ct)
          have hs2 : ((someT (l.take (j + 1))).foldl (fun a y => addE a (szF x f y)) (1, 1)).1 = max (1 + mo) (1 + (szF x f t).1) := by
            rw [hst, List.foldl_append, hs]
            exact addE_one _ _
          revert ew dt hs2
          generalize szF x f t = v
          intro ew dt hs2
          by_cases cm : mo < v.1
          · repeat' (first | refine run ⟨?_⟩ | refine pickD pj ?_ | refine ca (ew _) ?_ | fail)
            exact ⟨(j + 1, v.1), ⟨by show j + 1 ≤ _; omega, by show 0 ≤ v.1; omega, by show v.1 ≤ 64; omega, by rw [hs2]; show 1 + v.1 = _; omega⟩, by show _ - (j + 1) < _ - j; omega, by dsimp only; rw [i64w (by omega)] <;> rfl, rfl⟩
          · repeat' (first | refine run ⟨?_⟩ | refine pickD pj ?_ | refine ca (ew _) ?_ | fail)
            exact ⟨(j + 1, mo), ⟨by show j + 1 ≤ _; omega, hm0, hm1, by rw [hs2]; show 1 + mo = _; omega⟩, by show _ - (j + 1) < _ - j; omega, by dsimp only; rw [i64w (by omega)] <;> rfl, rfl⟩
      · have h' : ¬ (j : Int) < (l.length : Int) := by omega
        obtain rfl : j = l.length := by omega
        rw [List.take_length] at hs
        refine run ⟨?_⟩
        rw [i64w (by dsimp only; omega), ← hs, Int.add_comm]; exact rfl
    | false =>
      rw [locR_no cE] at e2
      rw [held_N cS cE]
      simp only [Bool.false_eq_true, if_false]
      refine evF_wq (t_ref15_Size (F := F)) rfl rfl ?_ H
      by_cases cu : s = unitT
      · have cu' : s = [40, 41] := cu
        rw [if_pos cu]
        refine run ⟨?_⟩
        exact rfl
      · have cu' : ¬ s = [40, 41] := cu
        rw [if_neg cu]
        repeat' (first | refine run ⟨?_⟩ | refine ca (e1 _) ?_ | refine ca (e2 _) ?_ | fail)
        exact rfl
theorem rSize_ev (x : Its) (hx : Fine x) (ok : Okay x) (s : S) (H : Hp) : evF (pgL fx F) n_ref15_Size [.d x.D, str s] H = some (i64 (wsI x s), H) := rSize_s x hx ok _ s (ok.dp s) H
end
end Go.Vm.Typ
namespace Go.Vm.Typ
open Go Go.Vm Go.Proofs Go.Vm.Ip
open Go.Vm.Lex (nameB)
set_option maxRecDepth 10000
theorem any_skip {x : Its} {f : Nat} {l : List Fld} (h : ∀ y ∈ l, (decide (y.t ≠ []) && ownM x f y.t) = false) : (someT l).any (ownM x f) = false := by
  rw [← any_some, List.any_eq_false]
  intro y hy
  rw [h y hy]; decide
section
variable {fx : Nat → Option Obj} {F : Nat → Option VFun}
set_option maxHeartbeats 4000000 in
theorem rOwned_s (x : Its) (hx : Fine x) (ok : Okay x) : ∀ (f : Nat) (s : S), deepOk x f s → Cls s → s.length ≤ mx → ∀ H, evF (pgL fx F) n_ref15_Owned [.d x.D, str s] H = some (boo (ownM x f s), H)
  | 0, _, h, _, _, _ => h.elim
  | f + 1, s, hdeep, hcl, hlen, H => by
    have ff := (fl_fine hx s).2
    have ih := fun (y : Fld) (hy : y ∈ flM x s) (hn : y.t ≠ []) =>
      have hm : y.t ∈ someT (flM x s) := someT_mem.2 ⟨hn, y, hy, rfl⟩
      rOwned_s x hx ok f y.t (hdeep y.t (by rw [held_some ok]; exact hm)) (cls_held ok hm) (ff y hy).2
    have hl := (fl_fine hx s).1
    have hl' : (flM x s).length ≤ 4398046511104 := hl
    have e1 := rStruct_ev (fx := fx) (F := F) x hx s
    have e2 := rEnum_ev (fx := fx) (F := F) x hx s
    have e3 := rBox_ev (fx := fx) (F := F) s hlen
    have hne : known (nS x) s = true → ∀ f ∈ flM x s, f.t ≠ [] := fun h f hf => by
      rw [fl_S h] at hf; exact ok.nf h hf
    have hsk := fun (h : ∀ y ∈ flM x s, (decide (y.t ≠ []) && ownM x f y.t) = false) => any_skip h
    have hys := fun (y : Fld) (hy : y ∈ flM x s) (hn : y.t ≠ []) (h : ownM x f y.t = true) => List.any_eq_true.2 ⟨y.t, someT_mem.2 ⟨hn, y, hy, rfl⟩, h⟩
    rw [ownM]
    cases cB : preB s boxT with
    | true =>
      rw [hcl cB] at e3
      refine evF_wq (t_ref15_Owned (F := F)) rfl rfl ?_ H
      repeat' (first | refine run ⟨?_⟩ | refine ca (e3 _) ?_ | fail)
      exact rfl
    | false =>
    have hb : boxB s = false := by unfold boxB; rw [cB]; rfl
    rw [hb] at e3
    rw [Bool.false_or]
    cases cS : known (nS x) s with
    | true =>
      have cE := ok.ap s cS
      obtain ⟨i, hi, hil, hiy⟩ := locR_yes (l := x.ss) cS
      replace hi : locR (nS x) s = i := hi
      have pi := gN hil
      have hne := hne cS
      have hfl := fl_S cS
      rw [hi] at e1
      rw [locR_no cE] at e2
      rw [hiy] at pi
      rw [hfl] at ih hl hl' hne hsk hys ⊢
      clear ff
      revert ih hl hl' pi hne hsk hys
      generalize nam x.ss s = y
      obtain ⟨yn, l⟩ := y
      intro ih hl hl' hsk hys pi hne
      dsimp only at ih hl hl' hne hsk hys ⊢
      have i0 : 0 ≤ (i : Int) := by omega
      refine evF_wq (t_ref15_Owned (F := F)) rfl rfl ?_ H
      repeat' (first | refine run ⟨?_⟩ | refine ca (e3 _) ?_ | refine ca (e1 _) ?_ | refine pickD pi ?_ | fail)
      refine wq_loop (α := Nat) (fun a => l.length - a) (fun a => [(1, str s), (2, .ptr 0 0), (23, .d (fldsD l)), (24, i64 l.length), (25, i64 a)]) (fun _ => [IB x]) (fun a => a ≤ l.length ∧ ∀ y ∈ l.take a, (decide (y.t ≠ []) && ownM x f y.t) = false) ?_ 0 ⟨Nat.zero_le _, by simp⟩ (by show [_, _, _, _, _] = _; rw [List.length_map] <;> rfl) rfl
      rintro j ⟨hj, hs⟩
      by_cases h : j < l.length
      · have h' : (j : Int) < (l.length : Int) := by omega
        have pj := gFl h
        have hm := getD_mem h
        have hn1 := hne _ hm
        have ew := ih _ hm hn1
        have ht := take_succ_getD (d := default) h
        have hy := hys _ hm hn1
        revert pj ew ht hy hn1
        generalize l.getD j default = y
        obtain ⟨n, t⟩ := y
        intro pj hn1 ew ht hy
        dsimp only at ew hy hn1
        cases co : ownM x f t with
        | true =>
          rw [hy co]
          rw [co] at ew
          repeat' (first | refine run ⟨?_⟩ | refine pickD pj ?_ | refine ca (ew _) ?_ | fail)
          exact rfl
        | false =>
          rw [co] at ew
          have hs2 : ∀ y ∈ l.take (j + 1), (decide (y.t ≠ []) && ownM x f y.t) = false := fun y hy => by
            rw [ht, List.mem_append, List.mem_singleton] at hy
            rcases hy with q | q
            · exact hs y q
            · rw [q, co, Bool.and_false]
          repeat' (first | refine run ⟨?_⟩ | refine pickD pj ?_ | refine ca (ew _) ?_ | fail)
          exact ⟨j + 1, ⟨by omega, hs2⟩, by omega, by rw [i64w (by omega)] <;> rfl, rfl⟩
      · have h' : ¬ (j : Int) < (l.length : Int) := by omega
        obtain rfl : j = l.length := by omega
        rw [List.take_length] at hs
        rw [hsk hs]
        repeat' (first | refine run ⟨?_⟩ | refine ca (e2 _) ?_ | fail)
        exact rfl
    | false =>
    rw [locR_no cS] at e1
    cases cE : known (nE x) s with
    | true =>
      obtain ⟨i, hi, hil, hiy⟩ := locR_yes (l := x.es) cE
      replace hi : locR (nE x) s = i := hi
      have pi := gN hil
      have hfl := fl_E cS cE
      rw [hi] at e2
      rw [hiy] at pi
      rw [hfl] at ih hl hl' hsk hys ⊢
      clear ff hne
      revert ih hl hl' pi hsk hys
      generalize nam x.es s = y
      obtain ⟨yn, l⟩ := y
      intro ih hl hl' hsk hys pi
      dsimp only at ih hl hl' hsk hys ⊢
      have i0 : 0 ≤ (i : Int) := by omega
      refine evF_wq (t_ref15_Owned (F := F)) rfl rfl ?_ H
      repeat' (first | refine run ⟨?_⟩ | refine ca (e3 _) ?_ | refine ca (e1 _) ?_ | refine ca (e2 _) ?_ | refine pickD pi ?_ | fail)
      refine wq_loop (α := Nat) (fun a => l.length - a) (fun a => [(2, .ptr 0 0), (44, .d (fldsD l)), (45, i64 l.length), (46, i64 a)]) (fun _ => [IB x]) (fun a => a ≤ l.length ∧ ∀ y ∈ l.take a, (decide (y.t ≠ []) && ownM x f y.t) = false) ?_ 0 ⟨Nat.zero_le _, by simp⟩ (by show [_, _, _, _] = _; rw [List.length_map] <;> rfl) rfl
      rintro j ⟨hj, hs⟩
      by_cases h : j < l.length
      · have h' : (j : Int) < (l.length : Int) := by omega
        have pj := gFl h
        have hm := getD_mem h
        have ew := ih _ hm
        have ht := take_succ_getD (d := default) h
        have hy := hys _ hm
        revert pj ew ht hy
        generalize l.getD j default = y
        obtain ⟨n, t⟩ := y
        intro pj ew ht hy
        dsimp only at ew hy
        have hs2 : (decide (t ≠ []) && ownM x f t) = false → ∀ y ∈ l.take (j + 1), (decide (y.t ≠ []) && ownM x f y.t) = false := fun co y hy => by
          rw [ht, List.mem_append, List.mem_singleton] at hy
          rcases hy with q | q
          · exact hs y q
          · rw [q]; exact co
        by_cases ct : t = []
        · have ct' : (!decide (t = [])) = false := by rw [ct]; rfl
          have hs3 := hs2 (by rw [ct]; rfl)
          repeat' (first | refine run ⟨?_⟩ | refine pickD pj ?_ | fail)
          exact ⟨j + 1, ⟨by omega, hs3⟩, by omega, by rw [i64w (by omega)] <;> rfl, rfl⟩
        have ct' : (!decide (t = [])) = true := by rw [decide_eq_false ct]; rfl
        have ew := ew ct
        have hy := hy ct
        cases co : ownM x f t with
        | true =>
          rw [hy co]
          rw [co] at ew
          repeat' (first | refine run ⟨?_⟩ | refine pickD pj ?_ | refine ca (ew _) ?_ | fail)
          exact rfl
        | false =>
          rw [co] at ew hs2
          have hs3 := hs2 (by rw [Bool.and_false])
          repeat' (first | refine run ⟨?_⟩ | refine pickD pj ?_ | refine ca (ew _) ?_ | fail)
          exact ⟨j + 1, ⟨by omega, hs3⟩, by omega, by rw [i64w (by omega)] <;> rfl, rfl⟩
      · have h' : ¬ (j : Int) < (l.length : Int) := by omega
        obtain rfl : j = l.length := by omega
        rw [List.take_length] at hs
        rw [hsk hs]
        refine run ⟨?_⟩
        exact rfl
    | false =>
      rw [locR_no cE] at e2
      have hfl : flM x s = [] := by unfold flM; rw [cS, cE]; rfl
      rw [hfl]
      refine evF_wq (t_ref15_Owned (F := F)) rfl rfl ?_ H
      repeat' (first | refine run ⟨?_⟩ | refine ca (e3 _) ?_ | refine ca (e1 _) ?_ | refine ca (e2 _) ?_ | fail)
      exact rfl
theorem rOwned_ev (x : Its) (hx : Fine x) (ok : Okay x) (s : S) (hs : s.length ≤ mx) (hi : isB (kn x) s = true) (H : Hp) : evF (pgL fx F) n_ref15_Owned [.d x.D, str s] H = some (boo (ownB x s), H) := rOwned_s x hx ok _ s (ok.dp s) (cls_is ok.nm hi) hs H
end
end Go.Vm.Typ
namespace Go.Vm.Typ
open Go Go.Vm Go.Proofs Go.Vm.Ip
open Go.Vm.Lex (nameB)
set_option maxRecDepth 10000
def RightOk (fx : Nat → Option Obj) : Prop := ∀ x : Its, Fine x → ∀ H, evF (pgL fx F2) n_ref14_Right [.d x.D] H = some (boo (chkB x), H)
section
variable {fx : Nat → Option Obj} (hR : RightOk fx)
include hR
theorem rAsked_ev (x : Its) (hx : Fine x) (s : S) (hs : s.length ≤ mx) (H : Hp) : evF (pgL fx F2) n_ref15_Asked [.d x.D, str s] H = some (i64 (askI x s), H) := by
  have e1 := hR x hx
  unfold askI
  refine evF_wq (t_ref15_Asked (F := F2)) rfl rfl ?_ H
  cases c1 : chkB x with
  | true =>
    have e2 := rIs_ev (fx := fx) (F := F2) x hx (okay_of c1).nm s hs
    rw [c1] at e1
    cases c2 : isB (kn x) s with
    | true =>
      rw [c2] at e2
      repeat' (first | refine run ⟨?_⟩ | refine ca (e1 _) ?_ | refine ca (e2 _) ?_ | fail)
      exact rfl
    | false =>
      rw [c2] at e2
      repeat' (first | refine run ⟨?_⟩ | refine ca (e1 _) ?_ | refine ca (e2 _) ?_ | fail)
      exact rfl
  | false =>
    rw [c1] at e1
    repeat' (first | refine run ⟨?_⟩ | refine ca (e1 _) ?_ | fail)
    exact rfl
theorem rRight_ev (x : Its) (hx : Fine x) (s : S) (hs : s.length ≤ mx) (H : Hp) : evF (pgL fx F2) n_ref15_Right [.d x.D, str s] H = some (boo (decide (askI x s = 0)), H) := by
  have e1 := hR x hx
  unfold askI
  refine evF_wq (t_ref15_Right (F := F2)) rfl rfl ?_ H
  cases c1 : chkB x with
  | true =>
    have e2 := rIs_ev (fx := fx) (F := F2) x hx (okay_of c1).nm s hs
    rw [c1] at e1
    cases c2 : isB (kn x) s with
    | true =>
      rw [c2] at e2
      repeat' (first | refine run ⟨?_⟩ | refine ca (e1 _) ?_ | refine ca (e2 _) ?_ | fail)
      exact rfl
    | false =>
      rw [c2] at e2
      repeat' (first | refine run ⟨?_⟩ | refine ca (e1 _) ?_ | refine ca (e2 _) ?_ | fail)
      exact rfl
  | false =>
    rw [c1] at e1
    repeat' (first | refine run ⟨?_⟩ | refine ca (e1 _) ?_ | fail)
    exact rfl
theorem rCopy_ev (x : Its) (hx : Fine x) (s : S) (hs : s.length ≤ mx) (H : Hp) : evF (pgL fx F2) n_ref15_Copy [.d x.D, str s] H = some (.tup [boo (decide (askI x s = 0) && copB s), i64 (askI x s)], H) := by
  have e1 := rAsked_ev hR x hx s hs
  have e2 := rCopied_ev (fx := fx) (F := F2) s
  generalize askI x s = k at e1 ⊢
  generalize copB s = b at e2 ⊢
  refine evF_wq (t_ref15_Copy (F := F2)) rfl rfl ?_ H
  by_cases c : k = 0
  · have c' : (!decide (k = 0)) = false := by rw [decide_eq_true c]; rfl
    rw [decide_eq_true c, Bool.true_and]
    repeat' (first | refine run ⟨?_⟩ | refine ca (e1 _) ?_ | refine ca (e2 _) ?_ | fail)
    rw [c]; exact rfl
  · have c' : (!decide (k = 0)) = true := by rw [decide_eq_false c]; rfl
    rw [decide_eq_false c, Bool.false_and]
    repeat' (first | refine run ⟨?_⟩ | refine ca (e1 _) ?_ | fail)
    exact rfl
theorem rWords_ev (x : Its) (hx : Fine x) (s : S) (hs : s.length ≤ mx) (H : Hp) : evF (pgL fx F2) n_ref15_Words [.d x.D, str s] H = some (.tup [i64 (if askI x s = 0 then wsI x s else 0), i64 (askI x s)], H) := by
  have e1 := rAsked_ev hR x hx s hs
  by_cases c : askI x s = 0
  · have ew := rSize_ev (fx := fx) (F := F2) x hx (okay_of (ask_ok c).1) s
    rw [if_pos c]
    rw [c] at e1 ⊢
    generalize wsI x s = w at ew ⊢
    refine evF_wq (t_ref15_Words (F := F2)) rfl rfl ?_ H
    repeat' (first | refine run ⟨?_⟩ | refine ca (e1 _) ?_ | refine ca (ew _) ?_ | fail)
    exact rfl
  · rw [if_neg c]
    generalize askI x s = k at c e1 ⊢
    have c' : (!decide (k = 0)) = true := by rw [decide_eq_false c]; rfl
    refine evF_wq (t_ref15_Words (F := F2)) rfl rfl ?_ H
    repeat' (first | refine run ⟨?_⟩ | refine ca (e1 _) ?_ | fail)
    exact rfl
theorem rOwns_ev (x : Its) (hx : Fine x) (s : S) (hs : s.length ≤ mx) (H : Hp) : evF (pgL fx F2) n_ref15_Owns [.d x.D, str s] H = some (.tup [boo (if askI x s = 0 then ownB x s else false), i64 (askI x s)], H) := by
  have e1 := rAsked_ev hR x hx s hs
  by_cases c : askI x s = 0
  · have ew := rOwned_ev (fx := fx) (F := F2) x hx (okay_of (ask_ok c).1) s hs (ask_ok c).2
    rw [if_pos c]
    rw [c] at e1 ⊢
    generalize ownB x s = w at ew ⊢
    refine evF_wq (t_ref15_Owns (F := F2)) rfl rfl ?_ H
    repeat' (first | refine run ⟨?_⟩ | refine ca (e1 _) ?_ | refine ca (ew _) ?_ | fail)
    exact rfl
  · rw [if_neg c]
    generalize askI x s = k at c e1 ⊢
    have c' : (!decide (k = 0)) = true := by rw [decide_eq_false c]; rfl
    refine evF_wq (t_ref15_Owns (F := F2)) rfl rfl ?_ H
    repeat' (first | refine run ⟨?_⟩ | refine ca (e1 _) ?_ | fail)
    exact rfl
end
section
variable {fx : Nat → Option Obj}
end
section
variable {fx : Nat → Option Obj} (hR : RightOk fx)
include hR
end
end Go.Vm.Typ
