import Derived.Test.YtpgpjenfnbcclaaTypV18
import Derived.Test.YtpgpjenfnbcclaaTypArg
set_option linter.unusedSimpArgs false
set_option linter.unusedVariables false
namespace Go.Vm.Typ
open Go Go.Vm Go.Proofs Go.Vm.Ip
open Go.Vm.Lex (nameB)
set_option maxRecDepth 10000
section
variable {fx : Nat → Option Obj} {F : Nat → Option VFun}
end
end Go.Vm.Typ
namespace Go.Vm.Typ
open Go Go.Vm Go.Proofs Go.Vm.Ip
open Go.Vm.Lex (nameB)
set_option maxRecDepth 10000
theorem lit_ask {s : S} (h : isB (kn lit) s = true) : askI lit s = 0 := by unfold askI; rw [lit_chk, h]; rfl
section
variable {fx : Nat → Option Obj}
theorem items_ev (H : Hp) : evF (pgL fx F2) n_law15_items [] H = some (.d lit.D, H) := by
  refine evF_wq (t_law15_items (F := F2)) rfl rfl ?_ H
  have h1 : toD [Ob.box [V.nils, V.nils, V.nils]] (.agg [V.d (.str mainT), V.nils, V.nils, V.d (.str unitT), i64 0]) = some (.agg [.str mainT, .sl [], .sl [], .str unitT, .int .i64 0]) := by simp [toD, toDs, toD1]
  have h2 : ∀ a b : D, toArg [Ob.box [V.d a, V.nils, V.d b]] (.agg [V.d a, V.nils, V.d b]) = .d (.agg [a, .sl [], b]) := fun a b => by simp [toArg, toD, toDs, toD1]
  repeat' (first | refine run ⟨?_⟩ | refine Exists.intro _ (And.intro h1 ?_) | fail)
  have h3 : ∀ a b c : D, c = .agg [a, .sl [], b] → chk (undL 0 [toArg [Ob.box [V.d a, V.nils, V.d b]] (.agg [V.d a, V.nils, V.d b])]) (toArg [Ob.box [V.d a, V.nils, V.d b]] (.agg [V.d a, V.nils, V.d b]) = .d c) := fun a b c e => chk_of (by rw [h2]; rfl) (by rw [h2, e])
  exact h3 _ _ _ rfl
theorem small_ev (H : Hp) : evF (pgL fx F2) n_law15_small [] H = some (boo true, H) := by
  have e0 := items_ev (fx := fx)
  have e1 := tWords_ev (fx := fx) lit lit_fine sT (by decide)
  have e2 := tAt_ev (fx := fx) lit lit_fine sT (by decide) [1, -1, 0] (by decide)
  have e3 := tOwns_ev (fx := fx) lit lit_fine sT (by decide)
  have e4 := tOffset_ev (fx := fx) lit lit_fine sT (by decide) 1
  have e5 := tInner_ev (fx := fx) (F := F2) [38, 109, 117, 116, 32, 83] (by decide)
  have e6 := tFits_ev (fx := fx) (F := F2) [33] sT
  have e7 := tRight_ev (fx := fx) lit lit_fine [38, 83] (by decide)
  have e8 := tRight_ev (fx := fx) lit lit_fine [84] (by decide)
  have a1 : askI lit sT = 0 := lit_ask (by decide)
  have a7 : askI lit [38, 83] = 0 := lit_ask (by decide)
  have a8 : askI lit [84] = 1 := by unfold askI; rw [lit_chk, show isB (kn lit) [84] = false by decide]; rfl
  rw [a1, if_pos rfl, show wsI lit sT = 2 by decide] at e1
  rw [show atS lit sT [1, -1, 0] = i64T by unfold atS; rw [a1]; decide, show atI lit sT [1, -1, 0] = 0 by unfold atI; rw [a1]; decide] at e2
  rw [a1, if_pos rfl, show ownB lit sT = true by decide] at e3
  rw [a1, show (if (0 : Int) = 0 ∧ offB lit sT 1 = true then offI lit sT (1 : Int).toNat else 0) = 1 by decide, show (if (0 : Int) = 0 then (if offB lit sT 1 = true then (0 : Int) else 9) else 0) = 0 by decide] at e4
  rw [show inM [38, 109, 117, 116, 32, 83] = (sT, true) by decide] at e5
  rw [show fitB [33] sT = true by decide] at e6
  rw [a7] at e7
  rw [a8] at e8
  refine evF_wq (t_law15_small (F := F2)) rfl rfl ?_ H
  repeat' (first | refine run ⟨?_⟩ | refine ca (e0 _) ?_ | refine ca (e1 _) ?_ | refine ca (e2 _) ?_ | refine ca (e3 _) ?_ | refine ca (e4 _) ?_ | refine ca (e5 _) ?_ | refine ca (e6 _) ?_ | refine ca (e7 _) ?_ | refine ca (e8 _) ?_ | fail)
  exact rfl
end
end Go.Vm.Typ
namespace Go.Vm.Typ
open Go Go.Vm Go.Proofs Go.Vm.Ip
open Go.Vm.Lex (nameB)
set_option maxRecDepth 10000
theorem at_nil {x : Its} {s : S} {p : List Int} (h : atI x s p ≠ 0) : atS x s p = [] := by
  unfold atS
  split
  · rename_i c
    unfold atI at h
    rw [if_pos c.1, if_pos c.2] at h
    cases hb : (pathM x s p).2 with
    | true => rw [hb] at h; exact absurd rfl h
    | false => exact path_none hb
  · rfl
def caseD (x : Its) (s : S) (k : Int) (p : List Int) : D := .agg [.sl (x.ss.map Nam.D), .sl (x.es.map Nam.D), .sl (x.fs.map Fnc.D), .str s, .int .i64 k, .sl (p.map (D.int .i64))]
section
variable {fx : Nat → Option Obj}
end
end Go.Vm.Typ
namespace Go.Vm.Typ
open Go Go.Vm Go.Proofs Go.Vm.Ip
open Go.Vm.Lex (nameB)
set_option maxRecDepth 10000
theorem ask_of {x : Its} {s : S} (h : chkB x = true) (h2 : isB (kn x) s = true) : askI x s = 0 := by unfold askI; rw [h, h2]; rfl
theorem paths_eq {x : Its} {s : S} {p q : List Int} (h : atI x s p = 0) (hl : p.length + q.length ≤ 100) : atS x s (p ++ q) = atS x (atS x s p) q ∧ atI x s (p ++ q) = atI x (atS x s p) q := by
  have ha : askI x s = 0 := by
    unfold atI at h
    by_cases c : askI x s = 0
    · exact c
    · rw [if_neg c] at h; exact absurd h c
  obtain ⟨hc, hi⟩ := ask_ok ha
  have ok := okay_of hc
  have hp : (pathM x s p).2 = true := by
    unfold atI at h
    rw [if_pos ha, if_pos (by omega)] at h
    cases c : (pathM x s p).2 with
    | true => rfl
    | false => rw [c] at h; cases h
  have hs : atS x s p = (pathM x s p).1 := by unfold atS; rw [if_pos ⟨ha, by omega⟩]
  have ha2 : askI x (atS x s p) = 0 := ask_of hc (by rw [hs]; exact path_is ok hi hp)
  have hpa := path_app (q := q) hp
  rw [← hs] at hpa
  unfold atI
  rw [ha, ha2, hpa]
  have e1 : atS x s (p ++ q) = (pathM x s (p ++ q)).1 := by unfold atS; rw [if_pos ⟨ha, by rw [List.length_append]; omega⟩]
  have e2 : atS x (atS x s p) q = (pathM x (atS x s p) q).1 := by
    generalize atS x s p = u at ha2
    unfold atS; rw [if_pos ⟨ha2, by omega⟩]
  refine ⟨by rw [e1, e2, hpa], ?_⟩
  have l1 : (p ++ q).length ≤ 100 := by rw [List.length_append]; omega
  have l2 : q.length ≤ 100 := by omega
  rw [if_pos rfl, if_pos rfl, if_pos l1, if_pos l2]
section
variable {fx : Nat → Option Obj}
set_option maxHeartbeats 2000000 in
theorem paths_law (x : Its) (hx : Fine x) (s : S) (hs : s.length ≤ mx) (k : Int) (p q : List Int) (hp : p.length ≤ mx) (hq : q.length ≤ mx) (hk : ∀ k ∈ p, -9223372036854775808 ≤ k ∧ k ≤ 9223372036854775807) (hk2 : ∀ k ∈ q, -9223372036854775808 ≤ k ∧ k ≤ 9223372036854775807) (H : Hp) : evF (pgL fx F2) n_law15_TypesPaths [.d (caseD x s k p), intsV q] H = some (boo true, H) := by
  have hp' : p.length ≤ 140737488355328 := hp
  have hq' : q.length ≤ 140737488355328 := hq
  have e1 := tAt_ev (fx := fx) x hx s hs p hk
  have e9 := small_ev (fx := fx)
  have hlp : (p.map (D.int .i64)).length = p.length := List.length_map ..
  have hlq : (q.map (D.int .i64)).length = q.length := List.length_map ..
  have hw : IntKind.i64.wrap ((((p.map (D.int .i64)).length : Nat) : Int) + (((q.map (D.int .i64)).length : Nat) : Int)) = (p.length : Int) + q.length := by rw [hlp, hlq, i64w (by omega)]
  by_cases c1 : atI x s p = 0
  rotate_left
  · rw [at_nil c1] at e1
    generalize atI x s p = c at e1 c1
    have c1' : (!decide (c = 0)) = true := by rw [decide_eq_false c1]; rfl
    refine evF_wq (t_law15_TypesPaths (F := F2)) rfl rfl ?_ H
    repeat' (first | refine run ⟨?_⟩ | refine ca (e1 _) ?_ | refine ca (e9 _) ?_ | fail)
    exact rfl
  have c1' : (!decide ((0 : Int) = 0)) = false := rfl
  by_cases c2 : p.length + q.length ≤ 100
  rotate_left
  · have c2' : 100 < IntKind.i64.wrap ((((p.map (D.int .i64)).length : Nat) : Int) + (((q.map (D.int .i64)).length : Nat) : Int)) := by rw [hw]; omega
    rw [c1] at e1
    generalize atS x s p = t at e1
    refine evF_wq (t_law15_TypesPaths (F := F2)) rfl rfl ?_ H
    repeat' (first | refine run ⟨?_⟩ | refine ca (e1 _) ?_ | refine ca (e9 _) ?_ | fail)
    exact rfl
  have c2' : ¬ 100 < IntKind.i64.wrap ((((p.map (D.int .i64)).length : Nat) : Int) + (((q.map (D.int .i64)).length : Nat) : Int)) := by rw [hw]; omega
  obtain ⟨h1, h2⟩ := paths_eq c1 c2
  have hat : (atS x s p).length ≤ mx := by
    unfold atS
    split
    · have : ∀ (p : List Int) (s : S), s.length ≤ mx → (pathM x s p).1.length ≤ mx := fun p => by
        induction p with
        | nil => intro s h; exact h
        | cons k r ih =>
          intro s h
          rw [pathM]
          split
          · exact ih _ (stpM_len hx h k)
          · exact Nat.zero_le _
      exact this p s hs
    · exact Nat.zero_le _
  have e2 := tAt_ev (fx := fx) x hx s hs (p ++ q) (fun k hk' => by
    rcases List.mem_append.1 hk' with h | h
    · exact hk k h
    · exact hk2 k h)
  have e3 := tAt_ev (fx := fx) x hx (atS x s p) hat q hk2
  rw [h1, h2] at e2
  rw [c1] at e1
  clear h1 h2
  revert e1 e2 e3
  generalize atS x (atS x s p) q = u
  generalize atI x (atS x s p) q = v
  generalize atS x s p = t
  intro e1 e2 e3
  have e2 : ∀ H, evF (pgL fx F2) n_types_At [.d x.D, str s, .d (.sl ([] ++ p.map (D.int .i64) ++ q.map (D.int .i64)))] H = some (.tup [str u, i64 v], H) := by
    rw [List.nil_append, ← List.map_append]; exact e2
  have a1 : ((p.map (D.int .i64)).all fun y => y.cells.length == 1) = true ∧ 0 < 1 := ⟨by rw [List.all_eq_true]; intro y hy; obtain ⟨n, _, rfl⟩ := List.mem_map.1 hy; rfl, by decide⟩
  have a2 : ((q.map (D.int .i64)).all fun y => y.cells.length == 1) = true ∧ 0 < 1 := ⟨by rw [List.all_eq_true]; intro y hy; obtain ⟨n, _, rfl⟩ := List.mem_map.1 hy; rfl, by decide⟩
  have q1 : decide (u = u) = true := decide_eq_true rfl
  have q2 : decide (v = v) = true := decide_eq_true rfl
  refine evF_wq (t_law15_TypesPaths (F := F2)) rfl rfl ?_ H
  repeat' (first | refine run ⟨?_⟩ | refine ca (e1 _) ?_ | refine ca (e9 _) ?_ | fail)
  refine And.intro a1 ?_
  refine And.intro ⟨rfl, rfl, by unfold roomy; omega⟩ ?_
  refine run ⟨?_⟩
  refine And.intro a2 ?_
  have hz : ([] ++ p.map (D.int .i64)).length = 0 + (p.map (D.int .i64)).length := by rw [List.length_append]; rfl
  have hz2 : ([] ++ p.map (D.int .i64) ++ q.map (D.int .i64)).length = 0 + (p.map (D.int .i64)).length + (q.map (D.int .i64)).length := by rw [List.length_append, List.length_append]; rfl
  refine And.intro ⟨rfl, hz, by rw [hlp, hlq]; unfold roomy; omega⟩ ?_
  repeat' (first | refine run ⟨?_⟩ | refine And.intro hz2 ?_ | refine ca (e2 _) ?_ | refine ca (e3 _) ?_ | refine ca (e9 _) ?_ | fail)
  exact rfl
end
end Go.Vm.Typ
namespace Go.Vm.Typ
open Go Go.Vm Go.Proofs Go.Vm.Ip
open Go.Vm.Lex (nameB)
set_option maxRecDepth 10000
section
variable {fx : Nat → Option Obj}
end
end Go.Vm.Typ
