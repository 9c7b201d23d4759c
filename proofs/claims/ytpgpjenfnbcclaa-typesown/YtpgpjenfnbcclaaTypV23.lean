import Derived.Test.YtpgpjenfnbcclaaTypV18
import Derived.Test.YtpgpjenfnbcclaaTypArg
set_option linter.unusedSimpArgs false
set_option linter.unusedVariables false
namespace Go.Vm.Typ
open Go Go.Vm Go.Proofs Go.Vm.Ip
open Go.Vm.Lex (nameB)
set_option maxRecDepth 10000
section
variable {fx : Nat → Option Obj} {F : Nat → Option VFun}
end
end Go.Vm.Typ
namespace Go.Vm.Typ
open Go Go.Vm Go.Proofs Go.Vm.Ip
open Go.Vm.Lex (nameB)
set_option maxRecDepth 10000
theorem lit_ask {s : S} (h : isB (kn lit) s = true) : askI lit s = 0 := by unfold askI; rw [lit_chk, h]; rfl
section
variable {fx : Nat → Option Obj}
theorem items_ev (H : Hp) : evF (pgL fx F2) n_law15_items [] H = some (.d lit.D, H) := by
  refine evF_wq (t_law15_items (F := F2)) rfl rfl ?_ H
  have h1 : toD [Ob.box [V.nils, V.nils, V.nils]] (.agg [V.d (.str mainT), V.nils, V.nils, V.d (.str unitT), i64 0]) = some (.agg [.str mainT, .sl [], .sl [], .str unitT, .int .i64 0]) := by simp [toD, toDs, toD1]
  have h2 : ∀ a b : D, toArg [Ob.box [V.d a, V.nils, V.d b]] (.agg [V.d a, V.nils, V.d b]) = .d (.agg [a, .sl [], b]) := fun a b => by simp [toArg, toD, toDs, toD1]
  repeat' (first | refine run ⟨?_⟩ | refine Exists.intro _ (And.intro h1 ?_) | fail)
  have h3 : ∀ a b c : D, c = .agg [a, .sl [], b] → chk (undL 0 [toArg [Ob.box [V.d a, V.nils, V.d b]] (.agg [V.d a, V.nils, V.d b])]) (toArg [Ob.box [V.d a, V.nils, V.d b]] (.agg [V.d a, V.nils, V.d b]) = .d c) := fun a b c e => chk_of (by rw [h2]; rfl) (by rw [h2, e])
  exact h3 _ _ _ rfl
theorem small_ev (H : Hp) : evF (pgL fx F2) n_law15_small [] H = some (boo true, H) := by
  have e0 := items_ev (fx := fx)
  have e1 := tWords_ev (fx := fx) lit lit_fine sT (by decide)
  have e2 := tAt_ev (fx := fx) lit lit_fine sT (by decide) [1, -1, 0] (by decide)
  have e3 := tOwns_ev (fx := fx) lit lit_fine sT (by decide)
  have e4 := tOffset_ev (fx := fx) lit lit_fine sT (by decide) 1
  have e5 := tInner_ev (fx := fx) (F := F2) [38, 109, 117, 116, 32, 83] (by decide)
  have e6 := tFits_ev (fx := fx) (F := F2) [33] sT
  have e7 := tRight_ev (fx := fx) lit lit_fine [38, 83] (by decide)
  have e8 := tRight_ev (fx := fx) lit lit_fine [84] (by decide)
  have a1 : askI lit sT = 0 := lit_ask (by decide)
  have a7 : askI lit [38, 83] = 0 := lit_ask (by decide)
  have a8 : askI lit [84] = 1 := by unfold askI; rw [lit_chk, show isB (kn lit) [84] = false by decide]; rfl
  rw [a1, if_pos rfl, show wsI lit sT = 2 by decide] at e1
  rw [show atS lit sT [1, -1, 0] = i64T by unfold atS; rw [a1]; decide, show atI lit sT [1, -1, 0] = 0 by unfold atI; rw [a1]; decide] at e2
  rw [a1, if_pos rfl, show ownB lit sT = true by decide] at e3
  rw [a1, show (if (0 : Int) = 0 ∧ offB lit sT 1 = true then offI lit sT (1 : Int).toNat else 0) = 1 by decide, show (if (0 : Int) = 0 then (if offB lit sT 1 = true then (0 : Int) else 9) else 0) = 0 by decide] at e4
  rw [show inM [38, 109, 117, 116, 32, 83] = (sT, true) by decide] at e5
  rw [show fitB [33] sT = true by decide] at e6
  rw [a7] at e7
  rw [a8] at e8
  refine evF_wq (t_law15_small (F := F2)) rfl rfl ?_ H
  repeat' (first | refine run ⟨?_⟩ | refine ca (e0 _) ?_ | refine ca (e1 _) ?_ | refine ca (e2 _) ?_ | refine ca (e3 _) ?_ | refine ca (e4 _) ?_ | refine ca (e5 _) ?_ | refine ca (e6 _) ?_ | refine ca (e7 _) ?_ | refine ca (e8 _) ?_ | fail)
  exact rfl
end
end Go.Vm.Typ
namespace Go.Vm.Typ
open Go Go.Vm Go.Proofs Go.Vm.Ip
open Go.Vm.Lex (nameB)
set_option maxRecDepth 10000
section
variable {fx : Nat → Option Obj}
end
end Go.Vm.Typ
namespace Go.Vm.Typ
open Go Go.Vm Go.Proofs Go.Vm.Ip
open Go.Vm.Lex (nameB)
set_option maxRecDepth 10000
theorem ask_of {x : Its} {s : S} (h : chkB x = true) (h2 : isB (kn x) s = true) : askI x s = 0 := by unfold askI; rw [h, h2]; rfl
section
variable {fx : Nat → Option Obj}
end
end Go.Vm.Typ
namespace Go.Vm.Typ
open Go Go.Vm Go.Proofs Go.Vm.Ip
open Go.Vm.Lex (nameB)
set_option maxRecDepth 10000
section
variable {fx : Nat → Option Obj}
set_option maxHeartbeats 4000000 in
theorem own_law (x : Its) (hx : Fine x) (s : S) (hs : s.length ≤ mx) (H : Hp) : evF (pgL fx F2) n_law15_TypesOwn [.d x.D, str s] H = some (boo true, H) := by
  have e1 := tCopy_ev (fx := fx) x hx s hs
  have e2 := tOwns_ev (fx := fx) x hx s hs
  have e3 := tWords_ev (fx := fx) x hx s hs
  have e4 := rStruct_ev (fx := fx) (F := F2) x hx s
  have e9 := small_ev (fx := fx)
  by_cases c : askI x s = 0
  rotate_left
  · rw [if_neg c] at e2 e3
    rw [decide_eq_false c] at e1
    revert e1 e2 e3 c
    generalize askI x s = k
    intro e1 e2 e3 c
    have c' : (!decide (k = 0)) = true := by rw [decide_eq_false c]; rfl
    have q4 : decide (k = k) = true := decide_eq_true rfl
    refine evF_wq (t_law15_TypesOwn (F := F2)) rfl rfl ?_ H
    repeat' (first | refine run ⟨?_⟩ | refine ca (e1 _) ?_ | refine ca (e2 _) ?_ | refine ca (e3 _) ?_ | refine ca (e9 _) ?_ | fail)
    exact rfl
  have ok := okay_of (ask_ok c).1
  have hco : copB s = true → ownB x s = false := fun h => cop_own ok h
  have hw0 := ws_nonneg (x := x) s
  have hw1 : ¬ wsI x s < 0 := by omega
  rw [c, if_pos rfl] at e2 e3
  rw [c, decide_eq_true rfl, Bool.true_and] at e1
  have c' : (!decide ((0 : Int) = 0)) = false := rfl
  have hcond : (copB s = false) ∨ (copB s = true ∧ ownB x s = false) := by
    cases h : copB s with
    | false => exact .inl rfl
    | true => exact .inr ⟨rfl, hco h⟩
  cases cS : known (nS x) s with
  | false =>
    rw [locR_no cS] at e4
    revert e1 e2 e3 hw1 hcond
    generalize copB s = b1
    generalize ownB x s = b2
    generalize wsI x s = w
    intro e1 e2 e3 hw1 hcond
    rcases hcond with h | ⟨h, h2⟩
    · subst h
      refine evF_wq (t_law15_TypesOwn (F := F2)) rfl rfl ?_ H
      repeat' (first | refine run ⟨?_⟩ | refine ca (e1 _) ?_ | refine ca (e2 _) ?_ | refine ca (e3 _) ?_ | refine ca (e4 _) ?_ | refine ca (e9 _) ?_ | fail)
      exact rfl
    · subst h h2
      refine evF_wq (t_law15_TypesOwn (F := F2)) rfl rfl ?_ H
      repeat' (first | refine run ⟨?_⟩ | refine ca (e1 _) ?_ | refine ca (e2 _) ?_ | refine ca (e3 _) ?_ | refine ca (e4 _) ?_ | refine ca (e9 _) ?_ | fail)
      exact rfl
  | true =>
    obtain ⟨i, hi, hil, hiy⟩ := locR_yes (l := x.ss) cS
    replace hi : locR (nS x) s = i := hi
    have pi := gN hil
    have hfl := fl_S cS
    rw [hi] at e4
    rw [hiy] at pi
    have i0 : ¬ (i : Int) < 0 := by omega
    have hl := (fl_fine hx s).1
    have hff := (fl_fine hx s).2
    have hwo := ws_off ok cS
    have e5 := tOffset_ev (fx := fx) x hx s hs
    have hos := fun j (hj : j < (flM x s).length) => off_succ ok cS hj
    have hob := off_bound ok cS
    have his := fun j (hj : j < (flM x s).length) => fld_is ok (getD_mem hj) (ok.nf cS (hfl ▸ getD_mem hj))
    have e6 := fun j (hj : j < (flM x s).length) => tWords_ev (fx := fx) x hx ((flM x s).getD j default).t (hff _ (getD_mem hj)).2
    have ha6 := fun j (hj : j < (flM x s).length) => ask_of (x := x) (ask_ok c).1 (his j hj)
    unfold offB at e5
    rw [cS, c] at e5
    simp only [true_and, if_true, Bool.true_and, decide_eq_true_eq] at e5
    clear his hff
    rw [hfl] at hl hwo e5 hos e6 ha6
    revert pi hl hwo e5 hos e6 ha6
    generalize nam x.ss s = y
    obtain ⟨yn, l⟩ := y
    dsimp only
    intro pi hl hwo hos e6 ha6 e5
    have hlm : (l.map Fld.D).length = l.length := List.length_map ..
    have hl' : l.length ≤ 4398046511104 := hl
    by_cases cl : l = []
    · have cl' : ((((l.map Fld.D).length : Nat) : Int)) = 0 := by rw [cl]; rfl
      revert e1 e2 e3 hw1 hcond
      generalize copB s = b1
      generalize ownB x s = b2
      generalize wsI x s = w
      intro e1 e2 e3 hw1 hcond
      rcases hcond with h | ⟨h, h2⟩
      · subst h
        refine evF_wq (t_law15_TypesOwn (F := F2)) rfl rfl ?_ H
        repeat' (first | refine run ⟨?_⟩ | refine ca (e1 _) ?_ | refine ca (e2 _) ?_ | refine ca (e3 _) ?_ | refine ca (e4 _) ?_ | refine pickD pi ?_ | refine ca (e9 _) ?_ | fail)
        exact rfl
      · subst h h2
        refine evF_wq (t_law15_TypesOwn (F := F2)) rfl rfl ?_ H
        repeat' (first | refine run ⟨?_⟩ | refine ca (e1 _) ?_ | refine ca (e2 _) ?_ | refine ca (e3 _) ?_ | refine ca (e4 _) ?_ | refine pickD pi ?_ | refine ca (e9 _) ?_ | fail)
        exact rfl
    · obtain ⟨n, hn⟩ : ∃ n, l.length = n + 1 := ⟨l.length - 1, by have := List.length_pos_iff.2 cl; omega⟩
      have cl' : ¬ ((((l.map Fld.D).length : Nat) : Int)) = 0 := by rw [hlm]; omega
      have hwr : IntKind.i64.wrap ((((l.map Fld.D).length : Nat) : Int) - 1) = (n : Int) := by rw [hlm, hn, i64w (by omega)]; omega
      have pj : 0 ≤ IntKind.i64.wrap ((((l.map Fld.D).length : Nat) : Int) - 1) ∧ (l.map Fld.D)[(IntKind.i64.wrap ((((l.map Fld.D).length : Nat) : Int) - 1)).toNat]? = some (l.getD n default).D := by
        rw [hwr]; exact gFl (by omega)
      have e5 := e5 (IntKind.i64.wrap ((((l.map Fld.D).length : Nat) : Int) - 1))
      rw [if_pos (by rw [hwr]; omega), if_pos (by rw [hwr]; omega)] at e5
      have e6 := e6 n (by omega)
      have ha6 := ha6 n (by omega)
      rw [ha6, if_pos rfl] at e6
      have hos := hos n (by omega)
      have hob2 := hob (n + 1)
      rw [hn, hos] at hwo
      rw [hos] at hob2
      have hto : (IntKind.i64.wrap ((((l.map Fld.D).length : Nat) : Int) - 1)).toNat = n := by rw [hwr]; omega
      rw [hto] at e5
      clear ha6 hos hob
      revert pj e6 e5 hob2 hwo
      generalize l.getD n default = z
      obtain ⟨zn, zt⟩ := z
      dsimp only
      revert e1 e2 e3 hw1 hcond
      generalize copB s = b1
      generalize ownB x s = b2
      generalize wsI x s = w
      generalize wsI x zt = w2
      generalize offI x s n = o
      intro e1 e2 e3 hw1 hcond hwo pj e5 e6 hob2
      have hwq : decide (IntKind.i64.wrap (o + w2) = w) = true := decide_eq_true (by rw [i64w (by omega), hwo])
      rcases hcond with h | ⟨h, h2⟩
      · subst h
        refine evF_wq (t_law15_TypesOwn (F := F2)) rfl rfl ?_ H
        repeat' (first | refine run ⟨?_⟩ | refine ca (e1 _) ?_ | refine ca (e2 _) ?_ | refine ca (e3 _) ?_ | refine ca (e4 _) ?_ | refine pickD pi ?_ | refine ca (e5 _) ?_ | refine pickD pj ?_ | refine ca (e6 _) ?_ | refine ca (e9 _) ?_ | fail)
        exact rfl
      · subst h h2
        refine evF_wq (t_law15_TypesOwn (F := F2)) rfl rfl ?_ H
        repeat' (first | refine run ⟨?_⟩ | refine ca (e1 _) ?_ | refine ca (e2 _) ?_ | refine ca (e3 _) ?_ | refine ca (e4 _) ?_ | refine pickD pi ?_ | refine ca (e5 _) ?_ | refine pickD pj ?_ | refine ca (e6 _) ?_ | refine ca (e9 _) ?_ | fail)
        exact rfl
end
end Go.Vm.Typ
