import Derived.Test.YtpgpjenfnbcclaaTypV3
import Derived.Test.YtpgpjenfnbcclaaTypArg
set_option linter.unusedSimpArgs false
set_option linter.unusedVariables false
namespace Go.Vm.Typ
open Go Go.Vm Go.Proofs Go.Vm.Ip
set_option maxRecDepth 10000
section
variable {fx : Nat → Option Obj} {F : Nat → Option VFun}
theorem fl_fine {x : Its} (hx : Fine x) (s : S) : (flM x s).length ≤ mf ∧ ∀ f ∈ flM x s, f.n.length ≤ mx ∧ f.t.length ≤ mx := by
  unfold flM
  split
  · rename_i h; have := hx.sf _ (nam_mem (l := x.ss) h).1; exact this.2
  split
  · rename_i h; have := hx.ef _ (nam_mem (l := x.es) h).1; exact this.2
  · exact ⟨Nat.zero_le _, fun f hf => by cases hf⟩
set_option maxHeartbeats 4000000 in
theorem words_s (hF : F 50 = some (.prim primClone)) (x : Its) (hx : Fine x) (ok : Okay x) : ∀ (f : Nat) (s : S), deepOk x f s → ∀ H, evF (pgL fx F) n_types_words [.d x.D, str s] H = some (i64 (szF x f s).1, H)
  | 0, _, h, _ => h.elim
  | f + 1, s, hdeep, H => by
    have ih := fun (y : S) (hy : y ∈ (heldM x s).1) => words_s hF x hx ok f y (hdeep y hy)
    have dy := fun (y : S) (hy : y ∈ (heldM x s).1) => ok.sz1 (hdeep y hy)
    have d0 := ok.sz1 hdeep
    have ef := tfields_ev (fx := fx) hF x hx s
    have hl := (fl_fine hx s).1
    have hl' : (flM x s).length ≤ 4398046511104 := hl
    have h0 : ∀ y, 0 ≤ (szF x f y).1 := fun y => (szF_bound x f y).1
    rw [szF] at d0 ⊢
    unfold kndI at ef
    cases cS : known (nS x) s with
    | true =>
      have cu : ¬ s = unitT := ok.nu (by unfold kn; rw [cS]; rfl)
      have cu' : ¬ s = [40, 41] := cu
      rw [cS, if_pos rfl] at ef
      rw [held_S ok cS] at ih dy d0 ⊢
      simp only [Bool.false_eq_true, if_false, cS, if_true] at d0 ⊢
      refine evF_wq (t_types_words (F := F)) rfl rfl ?_ H
      generalize flM x s = l at *
      repeat' (first | refine run ⟨?_⟩ | refine ca (ef _) ?_ | fail)
      refine wq_loop (α := Nat × Int × Int) (fun a => l.length - a.1) (fun a => [(1, str s), (2, .ptr 0 0), (6, i64 3), (7, i64 a.2.1), (8, i64 a.2.2), (18, .d (fldsD l)), (19, i64 l.length), (20, i64 a.1)]) (fun _ => [IB x]) (fun a => a.1 ≤ l.length ∧ a.2.1 = ((someT (l.take a.1)).foldl (fun a y => addS a (szF x f y)) (0, 1)).1) ?_ (0, 0, 0) ⟨Nat.zero_le _, rfl⟩ (by show [_, _, _, _, _, _, _, _] = _; rw [List.length_map] <;> rfl) rfl
      rintro ⟨j, sm, mo⟩ ⟨hj, hs⟩
      dsimp only at hj hs
      by_cases h : j < l.length
      · have h' : (j : Int) < (l.length : Int) := by omega
        have pj := gFl h
        have hst := someT_succ h
        have hin : (l.getD j default).t ≠ [] → (l.getD j default).t ∈ someT l := fun hn => someT_mem.2 ⟨hn, l.getD j default, by simp [List.getD_eq_getElem?_getD, List.getElem?_eq_getElem h], rfl⟩
        have hle : ((someT (l.take (j + 1))).foldl (fun a y => addS a (szF x f y)) (0, 1)).1 ≤ ((someT l).foldl (fun a y => addS a (szF x f y)) (0, 1)).1 := by
          have e : someT l = someT (l.take (j + 1)) ++ someT (l.drop (j + 1)) := by
            have e1 : l = l.take (j + 1) ++ l.drop (j + 1) := (List.take_append_drop _ _).symm
            have e2 : someT (l.take (j + 1) ++ l.drop (j + 1)) = someT (l.take (j + 1)) ++ someT (l.drop (j + 1)) := by
              unfold someT; rw [List.map_append, List.filter_append]
            rw [← e2, ← e1]
          rw [e, List.foldl_append]
          exact addS_pre h0 _ _ (addS_fold (szF_bound x f) _ _ (by decide) (by decide) (by decide) (by decide)).2.1
        revert pj hst hin
        generalize l.getD j default = y
        obtain ⟨n, t⟩ := y
        intro pj hst hin
        dsimp only at hst hin
        by_cases ct : t = []
        · rw [ct] at hst; simp only [if_true] at hst
          have ct' : (!decide (t = [])) = false := by rw [ct]; rfl
          repeat' (first | refine run ⟨?_⟩ | refine pickD pj ?_ | fail)
          exact ⟨(j + 1, sm, mo), ⟨by show j + 1 ≤ _; omega, by rw [hst]; exact hs⟩, by show _ - (j + 1) < _ - j; omega, by rw [i64w (by omega)] <;> rfl, rfl⟩
        · rw [if_neg ct] at hst
          have ct' : (!decide (t = [])) = true := by rw [decide_eq_false ct]; rfl
          have ew := ih t (hin ct)
          have dt := dy t (hin ct)
          rw [hst, List.foldl_append] at hle
          have ha := addS_fold (szF_bound x f) (someT (l.take j)) (0, 1) (by decide) (by decide) (by decide) (by decide)
          have hs2 : ((someT (l.take (j + 1))).foldl (fun a y => addS a (szF x f y)) (0, 1)).1 = sm + (szF x f t).1 := by
            rw [hst, List.foldl_append, hs]
            exact addS_one (Int.le_trans hle d0.2)
          rw [← hs] at ha
          revert ew dt hs2
          generalize szF x f t = v
          intro ew dt hs2
          repeat' (first | refine run ⟨?_⟩ | refine pickD pj ?_ | refine ca (ew _) ?_ | fail)
          exact ⟨(j + 1, sm + v.1, max mo v.1), ⟨by show j + 1 ≤ _; omega, hs2.symm⟩, by show _ - (j + 1) < _ - j; omega, by dsimp only; rw [i64w (show -9223372036854775808 ≤ sm + v.1 ∧ sm + v.1 ≤ 9223372036854775807 by omega), i64w (by omega)] <;> rfl, rfl⟩
      · have h' : ¬ (j : Int) < (l.length : Int) := by omega
        obtain rfl : j = l.length := by omega
        rw [List.take_length] at hs
        refine run ⟨?_⟩
        rw [hs]; exact rfl
    | false =>
    rw [cS, if_neg (by decide)] at ef
    cases cE : known (nE x) s with
    | true =>
      have cu : ¬ s = unitT := ok.nu (by unfold kn; rw [cE, Bool.or_true])
      have cu' : ¬ s = [40, 41] := cu
      rw [cE, if_pos rfl] at ef
      rw [held_E cS cE] at ih dy d0 ⊢
      simp only [if_true] at d0 ⊢
      refine evF_wq (t_types_words (F := F)) rfl rfl ?_ H
      generalize flM x s = l at *
      repeat' (first | refine run ⟨?_⟩ | refine ca (ef _) ?_ | fail)
      refine wq_loop (α := Nat × Int × Int) (fun a => l.length - a.1) (fun a => [(1, str s), (2, .ptr 0 0), (6, i64 4), (7, i64 a.2.1), (8, i64 a.2.2), (18, .d (fldsD l)), (19, i64 l.length), (20, i64 a.1)]) (fun _ => [IB x]) (fun a => a.1 ≤ l.length ∧ 0 ≤ a.2.2 ∧ a.2.2 ≤ 64 ∧ 1 + a.2.2 = ((someT (l.take a.1)).foldl (fun a y => addE a (szF x f y)) (1, 1)).1) ?_ (0, 0, 0) ⟨Nat.zero_le _, by decide, by decide, rfl⟩ (by show [_, _, _, _, _, _, _, _] = _; rw [List.length_map] <;> rfl) rfl
      rintro ⟨j, sm, mo⟩ ⟨hj, hm0, hm1, hs⟩
      dsimp only at hj hs hm0 hm1
      by_cases h : j < l.length
      · have h' : (j : Int) < (l.length : Int) := by omega
        have pj := gFl h
        have hst := someT_succ h
        have hin : (l.getD j default).t ≠ [] → (l.getD j default).t ∈ someT l := fun hn => someT_mem.2 ⟨hn, l.getD j default, by simp [List.getD_eq_getElem?_getD, List.getElem?_eq_getElem h], rfl⟩
        revert pj hst hin
        generalize l.getD j default = y
        obtain ⟨n, t⟩ := y
        intro pj hst hin
        dsimp only at hst hin
        by_cases ct : t = []
        · rw [ct] at hst; simp only [if_true] at hst
          have ct' : (!decide (t = [])) = false := by rw [ct]; rfl
          repeat' (first | refine run ⟨?_⟩ | refine pickD pj ?_ | fail)
          exact ⟨(j + 1, sm, mo), ⟨by show j + 1 ≤ _; omega, hm0, hm1, by rw [hst]; exact hs⟩, by show _ - (j + 1) < _ - j; omega, by rw [i64w (by omega)] <;> rfl, rfl⟩
        · rw [if_neg ct] at hst
          have ct' : (!decide (t = [])) = true := by rw [decide_eq_false ct]; rfl
          have ew := ih t (hin ct)
          have dt := dy t (hin ct)
          have hs2 : ((someT (l.take (j + 1))).foldl (fun a y => addE a (szF x f y)) (1, 1)).1 = max (1 + mo) (1 + (szF x f t).1) := by
            rw [hst, List.foldl_append, hs]
            exact addE_one _ _
          revert ew dt hs2
          generalize szF x f t = v
          intro ew dt hs2
          repeat' (first | refine run ⟨?_⟩ | refine pickD pj ?_ | refine ca (ew _) ?_ | fail)
          exact ⟨(j + 1, IntKind.i64.wrap (sm + v.1), max mo v.1), ⟨by show j + 1 ≤ _; omega, by show 0 ≤ max mo v.1; omega, by show max mo v.1 ≤ 64; omega, by rw [hs2]; show 1 + max mo v.1 = _; omega⟩, by show _ - (j + 1) < _ - j; omega, by dsimp only; rw [i64w (show -9223372036854775808 ≤ (j : Int) + 1 ∧ (j : Int) + 1 ≤ 9223372036854775807 by omega)] <;> rfl, rfl⟩
      · have h' : ¬ (j : Int) < (l.length : Int) := by omega
        obtain rfl : j = l.length := by omega
        rw [List.take_length] at hs
        refine run ⟨?_⟩
        rw [i64w (by dsimp only; omega), ← hs]; exact rfl
    | false =>
      have hfl : flM x s = [] := by unfold flM; rw [cS, cE]; rfl
      rw [cE, if_neg (by decide), hfl] at ef
      rw [held_N cS cE]
      simp only [Bool.false_eq_true, if_false, cS]
      refine evF_wq (t_types_words (F := F)) rfl rfl ?_ H
      repeat' (first | refine run ⟨?_⟩ | refine ca (ef _) ?_ | fail)
      refine wq_loop (α := Unit) (fun _ => 0) (fun a => [(1, str s), (2, .ptr 0 0), (6, i64 0), (7, i64 0), (8, i64 0), (18, .d (fldsD [])), (19, i64 0), (20, i64 0)]) (fun _ => [IB x]) (fun _ => True) ?_ () trivial rfl rfl
      rintro _ _
      by_cases cu : s = unitT
      · have cu' : s = [40, 41] := cu
        rw [if_pos cu]
        refine run ⟨?_⟩
        exact rfl
      · have cu' : ¬ s = [40, 41] := cu
        rw [if_neg cu]
        refine run ⟨?_⟩
        exact rfl
end
end Go.Vm.Typ
namespace Go.Vm.Typ
open Go Go.Vm Go.Proofs Go.Vm.Ip
set_option maxRecDepth 10000
section
variable {fx : Nat → Option Obj} {F : Nat → Option VFun}
theorem own58_ev (x : Its) (f : Fld) (b : Bool) (h : f.t ≠ [] → ∀ H, evF (pgL fx F) n_types_owns [.d x.D, str f.t] H = some (boo b, H)) : evF (pgL fx F) n_types_owns_1 [.d f.D, .ptr 0 0] [IB x] = some (boo (decide (f.t ≠ []) && b), [IB x]) := by
  obtain ⟨n, t⟩ := f
  dsimp only at h ⊢
  refine evF_wqOn (t_types_owns_1 (F := F)) rfl rfl rfl ?_
  by_cases c : t = []
  · have c' : (!decide (t = [])) = false := by rw [c]; rfl
    have hv : boo (decide (t ≠ []) && b) = boo false := by rw [c]; rfl
    rw [hv]
    refine run ⟨?_⟩
    rw [c]; exact rfl
  · have c' : (!decide (t = [])) = true := by rw [decide_eq_false c]; rfl
    have hv : boo (decide (t ≠ []) && b) = boo b := by rw [decide_eq_true c]; rfl
    rw [hv]
    have e1 := h c
    repeat' (first | refine run ⟨?_⟩ | refine ca (e1 _) ?_ | fail)
    exact rfl
def idI (g : Fld → Bool) (l : List Fld) : Int := if l.any g then (l.findIdx g : Nat) else -1
theorem idI_any (g : Fld → Bool) (l : List Fld) : decide (0 ≤ idI g l) = l.any g := by
  unfold idI
  cases l.any g with
  | true => rw [if_pos rfl]; exact decide_eq_true (by omega)
  | false => rw [if_neg (by decide)]; rfl
theorem getD_mem {l : List Fld} {j : Nat} (h : j < l.length) : l.getD j default ∈ l := by simp [List.getD_eq_getElem?_getD, List.getElem?_eq_getElem h]
theorem own79_ev (x : Its) (l : List Fld) (hl : l.length ≤ mf) (g : Fld → Bool) (hg : ∀ f ∈ l, evF (pgL fx F) n_types_owns_1 [.d f.D, .ptr 0 0] [IB x] = some (boo (g f), [IB x])) : evF (pgL fx F) n_slices_IndexFunc_api_Field_api_Field [.d (fldsD l), .fn n_types_owns_1 [.ptr 0 0]] [IB x] = some (i64 (idI g l), [IB x]) := by
  have hl' : l.length ≤ 4398046511104 := hl
  refine evF_wqOn (t_slices_IndexFunc_api_Field_api_Field (F := F)) rfl rfl rfl ?_
  refine run ⟨?_⟩
  refine wq_loop (α := Nat) (fun a => l.length - a) (fun a => [(0, .d (fldsD l)), (1, .fn n_types_owns_1 [.ptr 0 0]), (7, i64 l.length), (8, i64 a)]) (fun _ => [IB x]) (fun a => a ≤ l.length ∧ ∀ f ∈ l.take a, g f = false) ?_ 0 ⟨Nat.zero_le _, by simp⟩ (by show [_, _, _, _] = _; rw [List.length_map] <;> rfl) rfl
  rintro j ⟨hj, hs⟩
  by_cases h : j < l.length
  · have h' : (j : Int) < (l.length : Int) := by omega
    have pj := gFl h
    have e1 := hg _ (getD_mem h)
    cases c : g (l.getD j default) with
    | true =>
      have hv : idI g l = j := by
        unfold idI
        rw [if_pos (List.any_eq_true.2 ⟨_, getD_mem h, c⟩)]
        rw [List.getD_eq_getElem?_getD, List.getElem?_eq_getElem h] at c
        have : l.findIdx g = j := by
          rw [List.findIdx_eq h]
          refine ⟨c, fun i hi => hs _ ?_⟩
          rw [List.mem_take_iff_getElem]; exact ⟨i, by omega, rfl⟩
        rw [this]
      rw [hv]
      rw [c] at e1
      revert pj e1
      generalize l.getD j default = y
      intro pj e1
      repeat' (first | refine run ⟨?_⟩ | refine pickD pj ?_ | refine ca (e1) ?_ | fail)
      exact rfl
    | false =>
      rw [c] at e1
      have hs2 : ∀ f ∈ l.take (j + 1), g f = false := by
        intro f hf
        rw [take_succ_getD h, List.mem_append, List.mem_singleton] at hf
        rcases hf with q | q
        · exact hs f q
        · rw [q]; exact c
      revert pj e1
      generalize l.getD j default = y
      intro pj e1
      repeat' (first | refine run ⟨?_⟩ | refine pickD pj ?_ | refine ca (e1) ?_ | fail)
      exact ⟨j + 1, ⟨by omega, hs2⟩, by omega, by rw [i64w (by omega)] <;> rfl, rfl⟩
  · have h' : ¬ (j : Int) < (l.length : Int) := by omega
    obtain rfl : j = l.length := by omega
    rw [List.take_length] at hs
    have hv : idI g l = -1 := by
      unfold idI
      rw [if_neg (by rw [List.any_eq_true]; rintro ⟨f, hf, h⟩; rw [hs f hf] at h; cases h)]
    rw [hv]
    refine run ⟨?_⟩
    exact rfl
theorem own57_ev (x : Its) (l : List Fld) (hl : l.length ≤ mf) (g : Fld → Bool) (hg : ∀ f ∈ l, evF (pgL fx F) n_types_owns_1 [.d f.D, .ptr 0 0] [IB x] = some (boo (g f), [IB x])) : evF (pgL fx F) n_slices_ContainsFunc_api_Field_api_Field [.d (fldsD l), .fn n_types_owns_1 [.ptr 0 0]] [IB x] = some (boo (l.any g), [IB x]) := by
  have e1 := own79_ev x l hl g hg
  rw [← idI_any]
  generalize idI g l = k at *
  refine evF_wqOn (t_slices_ContainsFunc_api_Field_api_Field (F := F)) rfl rfl rfl ?_
  repeat' (first | refine run ⟨?_⟩ | refine ca (e1) ?_ | fail)
  exact rfl
theorem any_some (l : List Fld) (p : S → Bool) : l.any (fun f => decide (f.t ≠ []) && p f.t) = (someT l).any p := by
  unfold someT
  rw [List.any_filter, List.any_map]
  refine any_congr fun a _ => ?_
  rfl
theorem owns_s (hF : F 50 = some (.prim primClone)) (x : Its) (hx : Fine x) (ok : Okay x) : ∀ (f : Nat) (s : S), deepOk x f s → ∀ H, evF (pgL fx F) n_types_owns [.d x.D, str s] H = some (boo (ownM x f s), H)
  | 0, _, h, _ => h.elim
  | f + 1, s, hdeep, H => by
    have ih := fun (y : S) (hy : y ∈ someT (flM x s)) => owns_s hF x hx ok f y (hdeep y (by rw [held_some ok]; exact hy))
    have e1 := shasp_ev (fx := fx) (F := F) s boxT
    have ef := tfields_ev (fx := fx) hF x hx s
    have hl := (fl_fine hx s).1
    rw [ownM]
    cases c : preB s boxT with
    | true =>
      rw [c] at e1
      refine evF_wq (t_types_owns (F := F)) rfl rfl ?_ H
      repeat' (first | refine run ⟨?_⟩ | refine ca (e1 _) ?_ | fail)
      exact rfl
    | false =>
      rw [c] at e1
      rw [Bool.false_or, ← any_some]
      revert ih ef hl
      generalize flM x s = l
      intro ih ef hl
      have e3 := own57_ev x l hl (fun f' => decide (f'.t ≠ []) && ownM x f f'.t) fun f' hf => own58_ev x f' _ fun hn => ih _ (someT_mem.2 ⟨hn, f', hf, rfl⟩)
      generalize kndI x s = k at ef
      generalize (l.any fun f' => decide (f'.t ≠ []) && ownM x f f'.t) = b at e3 ⊢
      refine evF_wq (t_types_owns (F := F)) rfl rfl ?_ H
      repeat' (first | refine run ⟨?_⟩ | refine ca (e1 _) ?_ | refine ca (ef _) ?_ | refine ca (e3) ?_ | fail)
      exact rfl
end
end Go.Vm.Typ
namespace Go.Vm.Typ
open Go Go.Vm Go.Proofs Go.Vm.Ip
set_option maxRecDepth 10000
theorem ask_ok {x : Its} {s : S} (h : askI x s = 0) : chkB x = true ∧ isB (kn x) s = true := by
  unfold askI at h
  cases c : chkB x with
  | false => rw [c] at h; cases h
  | true =>
    cases d : isB (kn x) s with
    | false => rw [c, d] at h; cases h
    | true => exact ⟨rfl, rfl⟩
section
variable {fx : Nat → Option Obj}
theorem words_ev (x : Its) (hx : Fine x) (ok : Okay x) (s : S) (H : Hp) : evF (pgL fx F2) n_types_words [.d x.D, str s] H = some (i64 (wsI x s), H) := words_s F2_50 x hx ok _ s (ok.dp s) H
theorem owns_ev (x : Its) (hx : Fine x) (ok : Okay x) (s : S) (H : Hp) : evF (pgL fx F2) n_types_owns [.d x.D, str s] H = some (boo (ownB x s), H) := owns_s F2_50 x hx ok _ s (ok.dp s) H
theorem tWords_ev (x : Its) (hx : Fine x) (s : S) (hs : s.length ≤ mx) (H : Hp) : evF (pgL fx F2) n_types_Words [.d x.D, str s] H = some (.tup [i64 (if askI x s = 0 then wsI x s else 0), i64 (askI x s)], H) := by
  have e1 := fit_ev (fx := fx) x hx s hs
  by_cases c : askI x s = 0
  · have ew := words_ev (fx := fx) x hx (okay_of (ask_ok c).1) s
    rw [if_pos c]
    rw [c] at e1 ⊢
    generalize wsI x s = w at ew ⊢
    refine evF_wq (t_types_Words (F := F2)) rfl rfl ?_ H
    repeat' (first | refine run ⟨?_⟩ | refine ca (e1 _) ?_ | refine ca (ew _) ?_ | fail)
    exact rfl
  · rw [if_neg c]
    generalize askI x s = k at c e1 ⊢
    have c' : (!decide (k = 0)) = true := by rw [decide_eq_false c]; rfl
    refine evF_wq (t_types_Words (F := F2)) rfl rfl ?_ H
    repeat' (first | refine run ⟨?_⟩ | refine ca (e1 _) ?_ | fail)
    exact rfl
theorem tOwns_ev (x : Its) (hx : Fine x) (s : S) (hs : s.length ≤ mx) (H : Hp) : evF (pgL fx F2) n_types_Owns [.d x.D, str s] H = some (.tup [boo (if askI x s = 0 then ownB x s else false), i64 (askI x s)], H) := by
  have e1 := fit_ev (fx := fx) x hx s hs
  by_cases c : askI x s = 0
  · have ew := owns_ev (fx := fx) x hx (okay_of (ask_ok c).1) s
    rw [if_pos c]
    rw [c] at e1 ⊢
    generalize ownB x s = w at ew ⊢
    refine evF_wq (t_types_Owns (F := F2)) rfl rfl ?_ H
    repeat' (first | refine run ⟨?_⟩ | refine ca (e1 _) ?_ | refine ca (ew _) ?_ | fail)
    exact rfl
  · rw [if_neg c]
    generalize askI x s = k at c e1 ⊢
    have c' : (!decide (k = 0)) = true := by rw [decide_eq_false c]; rfl
    refine evF_wq (t_types_Owns (F := F2)) rfl rfl ?_ H
    repeat' (first | refine run ⟨?_⟩ | refine ca (e1 _) ?_ | fail)
    exact rfl
set_option maxHeartbeats 1000000 in
theorem tstep_ev (x : Its) (hx : Fine x) (ok : Okay x) (s : S) (hs : s.length ≤ mx) (k : Int) (hk : -9223372036854775808 ≤ k ∧ k ≤ 9223372036854775807) (H : Hp) : evF (pgL fx F2) n_types_step [.d x.D, str s, i64 k] H = some (.tup [str (stpM x s k).1, boo (stpM x s k).2], H) := by
  have e1 := tInner_ev (fx := fx) (F := F2) s hs
  have ef := tfields_ev (fx := fx) F2_50 x hx s
  have hl := (fl_fine hx s).1
  have hl' : (flM x s).length ≤ 4398046511104 := hl
  have hnS : known (nS x) s = true → ∀ f ∈ flM x s, f.t ≠ [] := fun h f hf => by
    unfold flM at hf; rw [if_pos h] at hf; exact ok.nf h hf
  have hN : known (nS x) s = false → known (nE x) s = false → flM x s = [] := fun h1 h2 => by unfold flM; rw [h1, h2]; rfl
  have hap := ok.ap s
  unfold stpM
  unfold kndI at ef
  by_cases c1 : k = -1
  · rw [if_pos c1]
    generalize inM s = y at e1 ⊢
    refine evF_wq (t_types_step (F := F2)) rfl rfl ?_ H
    repeat' (first | refine run ⟨?_⟩ | refine ca (e1 _) ?_ | fail)
    exact rfl
  rw [if_neg c1]
  revert ef hl hl' hnS hN
  generalize flM x s = l
  intro ef hl hl' hnS hN
  have hlm : (l.map Fld.D).length = l.length := List.length_map ..
  by_cases c2 : 0 ≤ k
  · rw [if_pos c2]
    have c2' : ¬ k < 0 := by omega
    by_cases c3 : k < l.length
    · have c3' : ¬ ((((l.map Fld.D).length : Nat) : Int) ≤ k) := by rw [hlm]; omega
      cases cS : known (nS x) s with
      | true =>
        rw [cS, if_pos rfl] at ef
        rw [if_pos ⟨rfl, c3⟩]
        have hk' : k.toNat < l.length := by omega
        have pj : 0 ≤ k ∧ (l.map Fld.D)[k.toNat]? = some (l.getD k.toNat default).D := by
          refine ⟨c2, ?_⟩
          rw [List.getElem?_map, List.getElem?_eq_getElem hk', List.getD_eq_getElem?_getD, List.getElem?_eq_getElem hk']; rfl
        have hne := hnS cS _ (getD_mem hk')
        revert pj hne
        generalize l.getD k.toNat default = y
        obtain ⟨n, t⟩ := y
        intro pj hne
        dsimp only at hne ⊢
        refine evF_wq (t_types_step (F := F2)) rfl rfl ?_ H
        have hne' : ¬ t = [] := hne
        have q : (!(decide ((3 : Int) = 3) == decide (0 ≤ k))) = false := by rw [decide_eq_true c2]; rfl
        repeat' (first | refine run ⟨?_⟩ | refine ca (ef _) ?_ | refine pickD pj ?_ | fail)
        exact rfl
      | false =>
        have cE : known (nE x) s = true := by
          cases cE : known (nE x) s with
          | true => rfl
          | false => rw [hN cS cE] at c3; simp at c3; omega
        rw [cS, if_neg (by decide), cE, if_pos rfl] at ef
        rw [if_neg (by simp)]
        have q : (!(decide ((4 : Int) = 3) == decide (0 ≤ k))) = true := by rw [decide_eq_true c2]; rfl
        refine evF_wq (t_types_step (F := F2)) rfl rfl ?_ H
        repeat' (first | refine run ⟨?_⟩ | refine ca (ef _) ?_ | fail)
        exact rfl
    · have c3' : (((l.map Fld.D).length : Nat) : Int) ≤ k := by rw [hlm]; omega
      rw [if_neg (by rintro ⟨_, h⟩; exact c3 h)]
      generalize (if known (nS x) s then 3 else if known (nE x) s then 4 else 0 : Int) = kd at ef
      refine evF_wq (t_types_step (F := F2)) rfl rfl ?_ H
      repeat' (first | refine run ⟨?_⟩ | refine ca (ef _) ?_ | fail)
      exact rfl
  · rw [if_neg c2]
    have c2' : k < 0 := by omega
    have hw : IntKind.i64.wrap (-2 - k) = -2 - k := i64w (by omega)
    by_cases c3 : -2 - k < l.length
    · have c3' : ¬ ((((l.map Fld.D).length : Nat) : Int) ≤ IntKind.i64.wrap (-2 - k)) := by rw [hlm, hw]; omega
      cases cS : known (nS x) s with
      | true =>
        rw [cS, if_pos rfl] at ef
        rw [if_neg (by rw [hap cS]; simp)]
        have q : (!(decide ((3 : Int) = 3) == decide (0 ≤ k))) = true := by rw [decide_eq_false c2]; rfl
        refine evF_wq (t_types_step (F := F2)) rfl rfl ?_ H
        repeat' (first | refine run ⟨?_⟩ | refine ca (ef _) ?_ | fail)
        exact rfl
      | false =>
        have cE : known (nE x) s = true := by
          cases cE : known (nE x) s with
          | true => rfl
          | false => rw [hN cS cE] at c3; simp at c3; omega
        rw [cS, if_neg (by decide), cE, if_pos rfl] at ef
        have hk' : (-2 - k).toNat < l.length := by omega
        have pj : 0 ≤ IntKind.i64.wrap (-2 - k) ∧ (l.map Fld.D)[(IntKind.i64.wrap (-2 - k)).toNat]? = some (l.getD (-2 - k).toNat default).D := by
          rw [hw]
          refine ⟨by omega, ?_⟩
          rw [List.getElem?_map, List.getElem?_eq_getElem hk', List.getD_eq_getElem?_getD, List.getElem?_eq_getElem hk']; rfl
        revert pj
        generalize l.getD (-2 - k).toNat default = y
        obtain ⟨n, t⟩ := y
        intro pj
        dsimp only
        have q : (!(decide ((4 : Int) = 3) == decide (0 ≤ k))) = false := by rw [decide_eq_false c2]; rfl
        by_cases ct : t = []
        · rw [if_neg (by rintro ⟨_, _, h⟩; exact h ct)]
          refine evF_wq (t_types_step (F := F2)) rfl rfl ?_ H
          repeat' (first | refine run ⟨?_⟩ | refine ca (ef _) ?_ | refine pickD pj ?_ | fail)
          exact rfl
        · rw [if_pos ⟨cE, c3, ct⟩]
          refine evF_wq (t_types_step (F := F2)) rfl rfl ?_ H
          repeat' (first | refine run ⟨?_⟩ | refine ca (ef _) ?_ | refine pickD pj ?_ | fail)
          exact rfl
    · have c3' : (((l.map Fld.D).length : Nat) : Int) ≤ IntKind.i64.wrap (-2 - k) := by rw [hlm, hw]; omega
      rw [if_neg (by rintro ⟨_, h, _⟩; exact c3 h)]
      generalize (if known (nS x) s then 3 else if known (nE x) s then 4 else 0 : Int) = kd at ef
      refine evF_wq (t_types_step (F := F2)) rfl rfl ?_ H
      repeat' (first | refine run ⟨?_⟩ | refine ca (ef _) ?_ | fail)
      exact rfl
end
end Go.Vm.Typ
namespace Go.Vm.Typ
open Go Go.Vm Go.Proofs Go.Vm.Ip
set_option maxRecDepth 10000
def offB (x : Its) (s : S) (k : Int) : Bool := known (nS x) s && decide (0 ≤ k ∧ k < (flM x s).length)
theorem stpM_len {x : Its} (hx : Fine x) {s : S} (hs : s.length ≤ mx) (k : Int) : (stpM x s k).1.length ≤ mx := by
  have hf := (fl_fine hx s).2
  have hg : ∀ i, ((flM x s).getD i default).t.length ≤ mx := fun i => by
    rw [List.getD_eq_getElem?_getD]
    cases h : (flM x s)[i]? with
    | none => exact Nat.zero_le _
    | some f => exact (hf f (List.mem_of_getElem? h)).2
  unfold stpM
  split
  · exact Nat.le_trans (inM_len s) hs
  split
  · split
    · exact hg _
    · exact Nat.zero_le _
  split
  · exact hg _
  · exact Nat.zero_le _
noncomputable def atI (x : Its) (s : S) (p : List Int) : Int := if askI x s = 0 then (if p.length ≤ 100 then (if (pathM x s p).2 then 0 else 9) else 2) else askI x s
noncomputable def atS (x : Its) (s : S) (p : List Int) : S := if askI x s = 0 ∧ p.length ≤ 100 then (pathM x s p).1 else []
theorem path_none {x : Its} : ∀ {s : S} {p : List Int}, (pathM x s p).2 = false → (pathM x s p).1 = []
  | _, [], h => by cases h
  | s, k :: r, h => by
    rw [pathM] at h ⊢
    split at h
    · rename_i c; rw [if_pos c]; exact path_none h
    · rename_i c; rw [if_neg c]
def intsV (p : List Int) : V := .d (.sl (p.map (D.int .i64)))
section
variable {fx : Nat → Option Obj}
set_option maxHeartbeats 1000000 in
theorem tOffset_ev (x : Its) (hx : Fine x) (s : S) (hs : s.length ≤ mx) (k : Int) (H : Hp) : evF (pgL fx F2) n_types_Offset [.d x.D, str s, i64 k] H = some (.tup [i64 (if askI x s = 0 ∧ offB x s k = true then offI x s k.toNat else 0), i64 (if askI x s = 0 then (if offB x s k then 0 else 9) else askI x s)], H) := by
  have e1 := fit_ev (fx := fx) x hx s hs
  by_cases c : askI x s = 0
  · have ok := okay_of (ask_ok c).1
    have ew := words_ev (fx := fx) x hx ok
    have es := struct_ev (fx := fx) F2_50 x hx s
    have hl := (fl_fine hx s).1
    have hl' : (flM x s).length ≤ 4398046511104 := hl
    rw [c] at e1 ⊢
    simp only [true_and, if_true]
    unfold offB
    cases cS : known (nS x) s with
    | false =>
      rw [cS] at es
      generalize nam x.ss s = y at es
      simp only [Bool.false_and, Bool.false_eq_true, if_false]
      refine evF_wq (t_types_Offset (F := F2)) rfl rfl ?_ H
      repeat' (first | refine run ⟨?_⟩ | refine ca (e1 _) ?_ | refine ca (es _) ?_ | fail)
      exact rfl
    | true =>
      have hfl : flM x s = (nam x.ss s).fs := by unfold flM; rw [if_pos cS]
      have hob := off_bound ok cS
      have hos := fun j => off_succ ok cS (k := j)
      have ho0 := off_zero x s
      rw [cS] at es
      rw [hfl] at hl hl' hos ⊢
      revert es hl hl' hos
      generalize nam x.ss s = y
      obtain ⟨yn, l⟩ := y
      intro es hl hl' hos
      dsimp only at hl hl' hos ⊢
      have hlm : (l.map Fld.D).length = l.length := List.length_map ..
      simp only [Bool.true_and, decide_eq_true_eq]
      by_cases c1 : k < 0
      · rw [if_neg (by omega), if_neg (by omega)]
        refine evF_wq (t_types_Offset (F := F2)) rfl rfl ?_ H
        repeat' (first | refine run ⟨?_⟩ | refine ca (e1 _) ?_ | refine ca (es _) ?_ | fail)
        exact rfl
      by_cases c2 : k < l.length
      · rw [if_pos (by omega), if_pos (by omega)]
        have c2' : ¬ ((((l.map Fld.D).length : Nat) : Int) ≤ k) := by rw [hlm]; omega
        obtain ⟨n, rfl⟩ : ∃ n : Nat, k = n := ⟨k.toNat, by omega⟩
        rw [Int.toNat_natCast]
        have hn : (0 : Int) ≤ (n : Int) := by omega
        have hb : (n : Int).toNat ≤ (l.map Fld.D).length := by rw [hlm]; omega
        refine evF_wq (t_types_Offset (F := F2)) rfl rfl ?_ H
        repeat' (first | refine run ⟨?_⟩ | refine ca (e1 _) ?_ | refine ca (es _) ?_ | refine And.intro hn ?_ | refine And.intro ⟨Nat.zero_le _, hb, rfl⟩ ?_ | fail)
        refine wq_loop (α := Nat) (fun a => n - a) (fun a => [(3, .ptr 0 0), (11, i64 (offI x s a)), (42, .d (fldsD (l.take n))), (43, i64 n), (44, i64 a)]) (fun _ => [IB x, .box [str yn, .d (fldsD l)]]) (fun a => a ≤ n) ?_ 0 (Nat.zero_le _) (by rw [ho0]; show [_, _, _, _, _] = _; rw [List.drop_zero, Int.toNat_natCast, ← List.map_take, List.length_map, List.length_take, Nat.min_eq_left (show n ≤ l.length by omega)] <;> rfl) rfl
        rintro j hj
        by_cases h : j < n
        · have h' : (j : Int) < (n : Int) := by omega
          have pj : 0 ≤ (j : Int) ∧ ((l.take n).map Fld.D)[(j : Int).toNat]? = some (l.getD j default).D := by
            have := gFl (l := l.take n) (i := j) (by rw [List.length_take]; omega)
            rw [show (l.take n).getD j default = l.getD j default by
              rw [List.getD_eq_getElem?_getD, List.getD_eq_getElem?_getD, List.getElem?_take_of_lt h]] at this
            exact this
          have h1 := hos j (by omega)
          have h2 := hob (j + 1)
          have h3 := ew (l.getD j default).t
          revert pj h1 h3
          generalize l.getD j default = y
          obtain ⟨fn, t⟩ := y
          intro pj h1 h3
          dsimp only at h1 h3
          revert h1 h3
          generalize wsI x t = w
          generalize offI x s j = o
          intro h1 h3
          repeat' (first | refine run ⟨?_⟩ | refine pickD pj ?_ | refine ca (h3 _) ?_ | fail)
          exact ⟨j + 1, by omega, by omega, by rw [h1, i64w (show -9223372036854775808 ≤ (j : Int) + 1 ∧ (j : Int) + 1 ≤ 9223372036854775807 by omega), i64w (by omega)] <;> rfl, rfl⟩
        · have h' : ¬ (j : Int) < (n : Int) := by omega
          obtain rfl : j = n := by omega
          refine run ⟨?_⟩
          exact rfl
      · rw [if_neg (by omega), if_neg (by omega)]
        have c2' : (((l.map Fld.D).length : Nat) : Int) ≤ k := by rw [hlm]; omega
        refine evF_wq (t_types_Offset (F := F2)) rfl rfl ?_ H
        repeat' (first | refine run ⟨?_⟩ | refine ca (e1 _) ?_ | refine ca (es _) ?_ | fail)
        exact rfl
  · rw [if_neg c, if_neg (fun h => c h.1)]
    generalize askI x s = k at c e1 ⊢
    have c' : (!decide (k = 0)) = true := by rw [decide_eq_false c]; rfl
    refine evF_wq (t_types_Offset (F := F2)) rfl rfl ?_ H
    repeat' (first | refine run ⟨?_⟩ | refine ca (e1 _) ?_ | fail)
    exact rfl
set_option maxHeartbeats 1000000 in
theorem tAt_ev (x : Its) (hx : Fine x) (s : S) (hs : s.length ≤ mx) (p : List Int) (hk : ∀ k ∈ p, -9223372036854775808 ≤ k ∧ k ≤ 9223372036854775807) (H : Hp) : evF (pgL fx F2) n_types_At [.d x.D, str s, intsV p] H = some (.tup [str (atS x s p), i64 (atI x s p)], H) := by
  have e1 := fit_ev (fx := fx) x hx s hs
  have hlm : (p.map (D.int .i64)).length = p.length := List.length_map ..
  unfold atS atI
  by_cases c : askI x s = 0
  · have ok := okay_of (ask_ok c).1
    rw [c] at e1 ⊢
    simp only [true_and, if_true]
    by_cases c1 : p.length ≤ 100
    · have c1' : ¬ ((100 : Int) < (((p.map (D.int .i64)).length : Nat) : Int)) := by rw [hlm]; omega
      rw [if_pos c1, if_pos c1]
      refine evF_wq (t_types_At (F := F2)) rfl rfl ?_ H
      repeat' (first | refine run ⟨?_⟩ | refine ca (e1 _) ?_ | fail)
      refine wq_loop (α := S × Nat) (fun a => p.length - a.2) (fun a => [(1, str a.1), (3, .ptr 0 0), (22, intsV p), (23, i64 p.length), (24, i64 a.2)]) (fun _ => [IB x]) (fun a => a.2 ≤ p.length ∧ a.1.length ≤ mx ∧ pathM x s p = pathM x a.1 (p.drop a.2)) ?_ (s, 0) ⟨Nat.zero_le _, hs, rfl⟩ (by show [_, _, _, _, _] = _; rw [List.length_map] <;> rfl) rfl
      rintro ⟨t, j⟩ ⟨hj, ht, hinv⟩
      dsimp only at hj ht hinv
      rw [hinv]
      by_cases h : j < p.length
      · have h' : (j : Int) < (p.length : Int) := by omega
        have pj : 0 ≤ (j : Int) ∧ (p.map (D.int .i64))[(j : Int).toNat]? = some (.int .i64 p[j]) := by
          refine ⟨by omega, ?_⟩
          rw [Int.toNat_natCast, List.getElem?_map, List.getElem?_eq_getElem h]; rfl
        have e2 := tstep_ev (fx := fx) x hx ok t ht p[j] (hk _ (List.getElem_mem _))
        have hl2 := stpM_len hx ht p[j]
        rw [List.drop_eq_getElem_cons h, pathM]
        revert pj e2 hl2
        generalize p[j] = k
        intro pj e2 hl2
        revert e2 hl2
        generalize stpM x t k = v
        obtain ⟨u, b⟩ := v
        intro e2 hl2
        dsimp only at e2 hl2 ⊢
        cases b with
        | true =>
          rw [if_pos rfl]
          repeat' (first | refine run ⟨?_⟩ | refine pickD pj ?_ | refine ca (e2 _) ?_ | fail)
          exact ⟨(u, j + 1), ⟨by show j + 1 ≤ _; omega, hl2, rfl⟩, by show _ - (j + 1) < _ - j; omega, by dsimp only; rw [i64w (by omega)] <;> rfl, rfl⟩
        | false =>
          rw [if_neg (by decide)]
          repeat' (first | refine run ⟨?_⟩ | refine pickD pj ?_ | refine ca (e2 _) ?_ | fail)
          exact rfl
      · have h' : ¬ (j : Int) < (p.length : Int) := by omega
        obtain rfl : j = p.length := by omega
        rw [List.drop_length, pathM]
        refine run ⟨?_⟩
        exact rfl
    · have c1' : (100 : Int) < (((p.map (D.int .i64)).length : Nat) : Int) := by rw [hlm]; omega
      rw [if_neg c1, if_neg c1]
      refine evF_wq (t_types_At (F := F2)) rfl rfl ?_ H
      repeat' (first | refine run ⟨?_⟩ | refine ca (e1 _) ?_ | fail)
      exact rfl
  · rw [if_neg c, if_neg (fun h => c h.1)]
    generalize askI x s = k at c e1 ⊢
    have c' : (!decide (k = 0)) = true := by rw [decide_eq_false c]; rfl
    refine evF_wq (t_types_At (F := F2)) rfl rfl ?_ H
    repeat' (first | refine run ⟨?_⟩ | refine ca (e1 _) ?_ | fail)
    exact rfl
end
end Go.Vm.Typ
