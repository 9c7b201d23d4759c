import Derived.Test.YtpgpjenfnbcclaaTypV18
import Derived.Test.YtpgpjenfnbcclaaTypArg
set_option linter.unusedSimpArgs false
set_option linter.unusedVariables false
namespace Go.Vm.Typ
open Go Go.Vm Go.Proofs Go.Vm.Ip
open Go.Vm.Lex (nameB)
set_option maxRecDepth 10000
section
variable {fx : Nat → Option Obj} {F : Nat → Option VFun}
end
end Go.Vm.Typ
namespace Go.Vm.Typ
open Go Go.Vm Go.Proofs Go.Vm.Ip
open Go.Vm.Lex (nameB)
set_option maxRecDepth 10000
theorem lit_ask {s : S} (h : isB (kn lit) s = true) : askI lit s = 0 := by unfold askI; rw [lit_chk, h]; rfl
section
variable {fx : Nat → Option Obj}
theorem items_ev (H : Hp) : evF (pgL fx F2) n_law15_items [] H = some (.d lit.D, H) := by
  refine evF_wq (t_law15_items (F := F2)) rfl rfl ?_ H
  have h1 : toD [Ob.box [V.nils, V.nils, V.nils]] (.agg [V.d (.str mainT), V.nils, V.nils, V.d (.str unitT), i64 0]) = some (.agg [.str mainT, .sl [], .sl [], .str unitT, .int .i64 0]) := by simp [toD, toDs, toD1]
  have h2 : ∀ a b : D, toArg [Ob.box [V.d a, V.nils, V.d b]] (.agg [V.d a, V.nils, V.d b]) = .d (.agg [a, .sl [], b]) := fun a b => by simp [toArg, toD, toDs, toD1]
  repeat' (first | refine run ⟨?_⟩ | refine Exists.intro _ (And.intro h1 ?_) | fail)
  have h3 : ∀ a b c : D, c = .agg [a, .sl [], b] → chk (undL 0 [toArg [Ob.box [V.d a, V.nils, V.d b]] (.agg [V.d a, V.nils, V.d b])]) (toArg [Ob.box [V.d a, V.nils, V.d b]] (.agg [V.d a, V.nils, V.d b]) = .d c) := fun a b c e => chk_of (by rw [h2]; rfl) (by rw [h2, e])
  exact h3 _ _ _ rfl
theorem small_ev (H : Hp) : evF (pgL fx F2) n_law15_small [] H = some (boo true, H) := by
  have e0 := items_ev (fx := fx)
  have e1 := tWords_ev (fx := fx) lit lit_fine sT (by decide)
  have e2 := tAt_ev (fx := fx) lit lit_fine sT (by decide) [1, -1, 0] (by decide)
  have e3 := tOwns_ev (fx := fx) lit lit_fine sT (by decide)
  have e4 := tOffset_ev (fx := fx) lit lit_fine sT (by decide) 1
  have e5 := tInner_ev (fx := fx) (F := F2) [38, 109, 117, 116, 32, 83] (by decide)
  have e6 := tFits_ev (fx := fx) (F := F2) [33] sT
  have e7 := tRight_ev (fx := fx) lit lit_fine [38, 83] (by decide)
  have e8 := tRight_ev (fx := fx) lit lit_fine [84] (by decide)
  have a1 : askI lit sT = 0 := lit_ask (by decide)
  have a7 : askI lit [38, 83] = 0 := lit_ask (by decide)
  have a8 : askI lit [84] = 1 := by unfold askI; rw [lit_chk, show isB (kn lit) [84] = false by decide]; rfl
  rw [a1, if_pos rfl, show wsI lit sT = 2 by decide] at e1
  rw [show atS lit sT [1, -1, 0] = i64T by unfold atS; rw [a1]; decide, show atI lit sT [1, -1, 0] = 0 by unfold atI; rw [a1]; decide] at e2
  rw [a1, if_pos rfl, show ownB lit sT = true by decide] at e3
  rw [a1, show (if (0 : Int) = 0 ∧ offB lit sT 1 = true then offI lit sT (1 : Int).toNat else 0) = 1 by decide, show (if (0 : Int) = 0 then (if offB lit sT 1 = true then (0 : Int) else 9) else 0) = 0 by decide] at e4
  rw [show inM [38, 109, 117, 116, 32, 83] = (sT, true) by decide] at e5
  rw [show fitB [33] sT = true by decide] at e6
  rw [a7] at e7
  rw [a8] at e8
  refine evF_wq (t_law15_small (F := F2)) rfl rfl ?_ H
  repeat' (first | refine run ⟨?_⟩ | refine ca (e0 _) ?_ | refine ca (e1 _) ?_ | refine ca (e2 _) ?_ | refine ca (e3 _) ?_ | refine ca (e4 _) ?_ | refine ca (e5 _) ?_ | refine ca (e6 _) ?_ | refine ca (e7 _) ?_ | refine ca (e8 _) ?_ | fail)
  exact rfl
end
end Go.Vm.Typ
namespace Go.Vm.Typ
open Go Go.Vm Go.Proofs Go.Vm.Ip
open Go.Vm.Lex (nameB)
set_option maxRecDepth 10000
section
variable {fx : Nat → Option Obj}
theorem texts_law (a b : S) (ha : a.length ≤ mx) (H : Hp) : evF (pgL fx F2) n_law15_TypesTexts [str a, str b] H = some (boo true, H) := by
  have e1 := tInner_ev (fx := fx) (F := F2) a ha
  have e2 := rInner_ev (fx := fx) (F := F2) a ha
  have e3 := tRef_ev (fx := fx) (F := F2) a
  have e4 := rRef_ev (fx := fx) (F := F2) a
  have e5 := tFits_ev (fx := fx) (F := F2) a b
  have e6 := rFits_ev (fx := fx) (F := F2) a b
  have e7 := small_ev (fx := fx)
  generalize inM a = i at e1 e2
  obtain ⟨i1, i2⟩ := i
  generalize preB a [38] = r1 at e3 e4
  generalize preB a mutT = r2 at e3 e4
  generalize fitB a b = f at e5 e6
  refine evF_wq (t_law15_TypesTexts (F := F2)) rfl rfl ?_ H
  have q0 : decide (i1 = i1) = true := decide_eq_true rfl
  have q1 : (i2 == i2) = true := by cases i2 <;> rfl
  have q2 : (r1 == r1) = true := by cases r1 <;> rfl
  have q3 : (r2 == r2) = true := by cases r2 <;> rfl
  have q4 : (f == f) = true := by cases f <;> rfl
  repeat' (first | refine run ⟨?_⟩ | refine ca (e1 _) ?_ | refine ca (e2 _) ?_ | refine ca (e3 _) ?_ | refine ca (e4 _) ?_ | refine ca (e5 _) ?_ | refine ca (e6 _) ?_ | refine ca (e7 _) ?_ | fail)
  exact rfl
end
end Go.Vm.Typ
namespace Go.Vm.Typ
open Go Go.Vm Go.Proofs Go.Vm.Ip
open Go.Vm.Lex (nameB)
set_option maxRecDepth 10000
section
variable {fx : Nat → Option Obj}
end
end Go.Vm.Typ
namespace Go.Vm.Typ
open Go Go.Vm Go.Proofs Go.Vm.Ip
open Go.Vm.Lex (nameB)
set_option maxRecDepth 10000
section
variable {fx : Nat → Option Obj}
end
end Go.Vm.Typ
