import Derived.Test.YtpgpjenfnbcclaaTypV16
import Derived.Test.YtpgpjenfnbcclaaTypArg
set_option linter.unusedSimpArgs false
set_option linter.unusedVariables false
namespace Go.Vm.Typ
open Go Go.Vm Go.Proofs Go.Vm.Ip
open Go.Vm.Lex (nameB)
set_option maxRecDepth 10000
theorem str_cells (l : List S) : ((l.map D.str).all (fun y => y.cells.length == 1)) = true := by
  rw [List.all_eq_true]; intro y hy; obtain ⟨s, _, rfl⟩ := List.mem_map.1 hy; rfl
abbrev ow14 (x : Its) (seen : List S) : Nat := owG (fun n => (flT x n).length) seen (nS x ++ nE x)
section
variable {fx : Nat → Option Obj} {F : Nat → Option VFun}
set_option maxHeartbeats 4000000 in
theorem endless14_ev (x : Its) (hx : Fine x) (hnm : ∀ s, kn x s = true → nameB s = true) (hsm : ∀ n, (flM x n).length ≤ 16) (hl : (nS x ++ nE x).length ≤ 128) (s : S) (hk : kn x s = true) (H : Hp) : evF (pgL fx F) n_ref14_endless [.d x.D, str s] H = some (boo (end14 x s), H) := by
  have ep := parts_ev (fx := fx) (F := F) x hx
  have hs0 : s ≠ [] := fun e => by have := hnm s hk; rw [e] at this; exact absurd this (by decide)
  have hft : ∀ n, (flT x n).length ≤ 16 := fun n => by unfold flT; rw [List.length_map]; exact hsm n
  have hb0 : ow14 x [] ≤ 2048 := Nat.le_trans (owG_bound hft [] _) (by omega)
  refine evF_wq (t_ref14_endless (F := F)) rfl rfl ?_ H
  have e1 := ep s
  rw [hk] at e1
  unfold end14
  have hlm : ((flM x s).map Fld.D).length = (flM x s).length := List.length_map ..
  have ha := hsm s
  cases c1 : enB x s with
  | true =>
    rw [c1] at e1
    by_cases c2 : flM x s = []
    · rw [decide_eq_true c2]
      rw [c2] at e1
      repeat' (first | refine run ⟨?_⟩ | refine ca (e1 _) ?_ | fail)
      exact rfl
    · rw [decide_eq_false c2]
      have c2' : ¬ ((((flM x s).map Fld.D).length : Nat) : Int) = 0 := by
        rw [hlm]; intro e; exact c2 (List.length_eq_zero_iff.1 (by omega))
      revert e1 c2' c2 hlm ha
      generalize flM x s = l0
      intro e1 hlm ha c2 c2'
      simp only [Bool.true_and, Bool.false_or]
      repeat' (first | refine run ⟨?_⟩ | refine ca (e1 _) ?_ | fail)
      refine wq_loop (α := List S × List S) (fun a => a.2.length + ow14 x a.1) (fun a => [(1, str s), (2, .ptr 0 0), (8, .row 1 a.1.length), (9, .d (.sl (a.2.map D.str)))]) (fun a => [IB x, .row 1 (a.1.map D.str)]) (fun a => Sr14 x s a.1 a.2 ∧ a.1.length + a.2.length + ow14 x a.1 ≤ 2049) ?_ ([], [s]) ⟨.start x s, by show 0 + 1 + ow14 x [] ≤ _; omega⟩ rfl rfl
      rintro ⟨seen, todo⟩ ⟨hr, hm⟩
      dsimp only at hr hm
      cases todo with
      | nil =>
        have h' : ¬ (0 : Int) < ((([] : List S).map D.str).length : Int) := by decide
        rw [endB_f hr.end]
        refine run ⟨?_⟩
        exact rfl
      | cons y r =>
        have hlr : ((y :: r).map D.str).length = r.length + 1 := by simp
        have h' : (0 : Int) < (((y :: r).map D.str).length : Int) := by rw [hlr]; omega
        have hsl : (1 : Nat) ≤ ((y :: r).map D.str).length ∧ ((y :: r).map D.str).length ≤ ((y :: r).map D.str).length := by rw [hlr]; omega
        have hdr : (((y :: r).map D.str).take ((y :: r).map D.str).length).drop 1 = r.map D.str := by rw [List.take_length]; rfl
        have hlse : (seen.map D.str).length = seen.length := List.length_map ..
        have ey := ep y
        have eh := has_ev (fx := fx) (F := F) seen (Nat.le_trans (show seen.length ≤ 2049 by omega) (by decide)) y
        cases k1 : kn x y with
        | false =>
          rw [k1] at ey
          generalize flM x y = l at ey
          generalize enB x y = en at ey
          repeat' (first | refine run ⟨?_⟩ | refine And.intro (by decide) ?_ | refine And.intro ⟨hsl.1, hsl.2, str_cells _⟩ ?_ | refine ca (ey _) ?_ | fail)
          refine ⟨(seen, r), ⟨hr.old hk (.inl k1), ?_⟩, ?_, ?_, rfl⟩
          · simp only [List.length_cons] at hm ⊢; omega
          · simp only [List.length_cons] at hm ⊢; omega
          · exact congrArg (fun l => ([(1, str s), (2, .ptr 0 0), (8, .row 1 seen.length), (9, .d (.sl l))] : Env)) hdr
        | true =>
        rw [k1] at ey
        have hlm2 : ((flM x y).map Fld.D).length = (flM x y).length := List.length_map ..
        have hl16 := hsm y
        have hfr : Sr14 x s seen (y :: r) → s ∈ (flM x y).map Fld.t → Gets x s s := fun h => h.found hs0 k1
        have hnw : Sr14 x s seen (y :: r) → s ∉ (flM x y).map Fld.t → Sr14 x s (seen ++ [y]) (r ++ (flM x y).map Fld.t) := fun h => h.new hnm k1
        have how : y ∉ seen → ow14 x (seen ++ [y]) + ((flM x y).map Fld.t).length ≤ ow14 x seen := fun h => owG_lt _ h _ (kn_mem.1 k1)
        generalize enB x y = en at ey
        by_cases k2 : y ∈ seen
        · rw [decide_eq_true k2] at eh
          generalize flM x y = l at ey
          repeat' (first | refine run ⟨?_⟩ | refine And.intro (by decide) ?_ | refine And.intro ⟨hsl.1, hsl.2, str_cells _⟩ ?_ | refine ca (ey _) ?_ | refine And.intro hlse ?_ | refine ca (eh _) ?_ | fail)
          refine ⟨(seen, r), ⟨hr.old hk (.inr k2), ?_⟩, ?_, ?_, rfl⟩
          · simp only [List.length_cons] at hm ⊢; omega
          · simp only [List.length_cons] at hm ⊢; omega
          · exact congrArg (fun l => ([(1, str s), (2, .ptr 0 0), (8, .row 1 seen.length), (9, .d (.sl l))] : Env)) hdr
        rw [decide_eq_false k2] at eh
        have how := how k2
        revert ey hlm2 hl16 hfr hnw how
        generalize flM x y = l
        intro hlm2 hl16 hfr hnw ey how
        repeat' (first | refine run ⟨?_⟩ | refine And.intro (by decide) ?_ | refine And.intro ⟨hsl.1, hsl.2, str_cells _⟩ ?_ | refine ca (ey _) ?_ | refine And.intro hlse ?_ | refine ca (eh _) ?_ | fail)
        refine And.intro ⟨rfl, by decide⟩ ?_
        refine And.intro ⟨rfl, hlse, by show roomy (seen.length + 1) 16; unfold roomy; omega⟩ ?_
        refine run ⟨?_⟩
        have hlt : ∀ j, ((r ++ (l.map Fld.t).take j).map D.str).length ≤ r.length + l.length := fun j => by
          rw [List.length_map, List.length_append, List.length_take, List.length_map]; omega
        refine wq_loop (α := Nat) (fun a => l.length - a) (fun a => [(1, str s), (2, .ptr 0 0), (8, .row 1 (seen.length + 1)), (9, .d (.sl ((r ++ (l.map Fld.t).take a).map D.str))), (11, .d (fldsD l)), (14, i64 a)]) (fun _ => [IB x, .row 1 ((seen ++ [y]).map D.str)]) (fun a => a ≤ l.length ∧ s ∉ (l.map Fld.t).take a) ?_ 0 ⟨Nat.zero_le _, by simp⟩ ?_ (by rw [List.map_append] <;> rfl)
        · rintro j ⟨hj, hns⟩
          by_cases g : j < l.length
          · have g' : (j : Int) < ((l.map Fld.D).length : Int) := by rw [hlm2]; omega
            have pj := gFl g
            have htk : (l.map Fld.t).take (j + 1) = (l.map Fld.t).take j ++ [(l.getD j default).t] := by
              rw [List.take_add_one, List.getElem?_map, List.getElem?_eq_getElem g, List.getD_eq_getElem?_getD, List.getElem?_eq_getElem g]; rfl
            have hmt : (l.getD j default).t ∈ l.map Fld.t := List.mem_map.2 ⟨_, getD_mem g, rfl⟩
            revert pj htk hmt
            generalize l.getD j default = z
            obtain ⟨n, t⟩ := z
            intro pj htk hmt
            dsimp only at htk hmt
            by_cases k3 : t = s
            · rw [endB_t (hfr hr (k3 ▸ hmt))]
              repeat' (first | refine run ⟨?_⟩ | refine pickD pj ?_ | fail)
              exact rfl
            · have hns2 : s ∉ (l.map Fld.t).take (j + 1) := by
                rw [htk, List.mem_append, List.mem_singleton, not_or]
                exact ⟨hns, fun e => k3 e.symm⟩
              have hltj := hlt j
              have hgr : ∀ q : List D, grew [IB x, Ob.row 1 ((seen ++ [y]).map D.str)] [IB x, Ob.row 1 ((seen ++ [y]).map D.str), Ob.row 1 q] = true := fun q => (grew_snoc [IB x, Ob.row 1 ((seen ++ [y]).map D.str)] _).trans rfl
              repeat' (first | refine run ⟨?_⟩ | refine pickD pj ?_ | fail)
              refine And.intro ⟨str_cells _, by decide⟩ ?_
              refine And.intro (fun hq => ?_) (fun hq => And.intro (by unfold roomy; simp only [List.length_cons] at hm; omega) ?_)
              · repeat' (first | refine run ⟨?_⟩ | refine pickD pj ?_ | fail)
                refine And.intro ⟨rfl, by decide⟩ ?_
                refine And.intro (fun h => absurd h (by simp)) (fun _ => And.intro (by show roomy 1 16; decide) ?_)
                refine run ⟨?_⟩
                rw [List.map_eq_nil_iff] at hq
                refine ⟨j + 1, ⟨by omega, hns2⟩, by omega, ?_, rfl⟩
                rw [htk, ← List.append_assoc, hq, i64w (by omega)] <;> rfl
              · repeat' (first | refine run ⟨?_⟩ | refine And.intro (hgr _) ?_ | refine pickD pj ?_ | fail)
                refine And.intro ⟨rfl, by decide⟩ ?_
                refine And.intro ⟨rfl, rfl, by show roomy (_ + 1) 16; unfold roomy; simp only [List.length_cons] at hm; omega⟩ ?_
                refine run ⟨?_⟩
                refine And.intro (by rw [List.length_append] <;> rfl) ?_
                refine run ⟨?_⟩
                refine ⟨j + 1, ⟨by omega, hns2⟩, by omega, ?_, rfl⟩
                rw [htk, ← List.append_assoc, List.map_append (l₁ := r ++ _), i64w (by omega)] <;> rfl
          · have g' : ¬ (j : Int) < ((l.map Fld.D).length : Int) := by rw [hlm2]; omega
            obtain rfl : j = l.length := by omega
            rw [List.take_of_length_le (by rw [List.length_map]; exact Nat.le_refl _)] at hns ⊢
            refine run ⟨?_⟩
            refine ⟨(seen ++ [y], r ++ l.map Fld.t), ⟨hnw hr hns, ?_⟩, ?_, ?_, rfl⟩
            · simp only [List.length_append, List.length_cons, List.length_nil] at hm how ⊢; omega
            · simp only [List.length_append, List.length_cons, List.length_nil] at hm how ⊢; omega
            · dsimp only; rw [show (seen ++ [y]).length = seen.length + 1 by rw [List.length_append]; rfl] <;> rfl
        · exact congrArg (fun q => ([(1, str s), (2, .ptr 0 0), (8, .row 1 (seen.length + 1)), (9, .d (.sl q)), (11, .d (fldsD l)), (14, i64 0)] : Env)) (by rw [List.take_zero, List.append_nil]; exact hdr)
  | false =>
    rw [c1] at e1
    · generalize flM x s = l0 at e1
      simp only [Bool.false_and, Bool.false_or]
      repeat' (first | refine run ⟨?_⟩ | refine ca (e1 _) ?_ | fail)
      refine wq_loop (α := List S × List S) (fun a => a.2.length + ow14 x a.1) (fun a => [(1, str s), (2, .ptr 0 0), (8, .row 1 a.1.length), (9, .d (.sl (a.2.map D.str)))]) (fun a => [IB x, .row 1 (a.1.map D.str)]) (fun a => Sr14 x s a.1 a.2 ∧ a.1.length + a.2.length + ow14 x a.1 ≤ 2049) ?_ ([], [s]) ⟨.start x s, by show 0 + 1 + ow14 x [] ≤ _; omega⟩ rfl rfl
      rintro ⟨seen, todo⟩ ⟨hr, hm⟩
      dsimp only at hr hm
      cases todo with
      | nil =>
        have h' : ¬ (0 : Int) < ((([] : List S).map D.str).length : Int) := by decide
        rw [endB_f hr.end]
        refine run ⟨?_⟩
        exact rfl
      | cons y r =>
        have hlr : ((y :: r).map D.str).length = r.length + 1 := by simp
        have h' : (0 : Int) < (((y :: r).map D.str).length : Int) := by rw [hlr]; omega
        have hsl : (1 : Nat) ≤ ((y :: r).map D.str).length ∧ ((y :: r).map D.str).length ≤ ((y :: r).map D.str).length := by rw [hlr]; omega
        have hdr : (((y :: r).map D.str).take ((y :: r).map D.str).length).drop 1 = r.map D.str := by rw [List.take_length]; rfl
        have hlse : (seen.map D.str).length = seen.length := List.length_map ..
        have ey := ep y
        have eh := has_ev (fx := fx) (F := F) seen (Nat.le_trans (show seen.length ≤ 2049 by omega) (by decide)) y
        cases k1 : kn x y with
        | false =>
          rw [k1] at ey
          generalize flM x y = l at ey
          generalize enB x y = en at ey
          repeat' (first | refine run ⟨?_⟩ | refine And.intro (by decide) ?_ | refine And.intro ⟨hsl.1, hsl.2, str_cells _⟩ ?_ | refine ca (ey _) ?_ | fail)
          refine ⟨(seen, r), ⟨hr.old hk (.inl k1), ?_⟩, ?_, ?_, rfl⟩
          · simp only [List.length_cons] at hm ⊢; omega
          · simp only [List.length_cons] at hm ⊢; omega
          · exact congrArg (fun l => ([(1, str s), (2, .ptr 0 0), (8, .row 1 seen.length), (9, .d (.sl l))] : Env)) hdr
        | true =>
        rw [k1] at ey
        have hlm2 : ((flM x y).map Fld.D).length = (flM x y).length := List.length_map ..
        have hl16 := hsm y
        have hfr : Sr14 x s seen (y :: r) → s ∈ (flM x y).map Fld.t → Gets x s s := fun h => h.found hs0 k1
        have hnw : Sr14 x s seen (y :: r) → s ∉ (flM x y).map Fld.t → Sr14 x s (seen ++ [y]) (r ++ (flM x y).map Fld.t) := fun h => h.new hnm k1
        have how : y ∉ seen → ow14 x (seen ++ [y]) + ((flM x y).map Fld.t).length ≤ ow14 x seen := fun h => owG_lt _ h _ (kn_mem.1 k1)
        generalize enB x y = en at ey
        by_cases k2 : y ∈ seen
        · rw [decide_eq_true k2] at eh
          generalize flM x y = l at ey
          repeat' (first | refine run ⟨?_⟩ | refine And.intro (by decide) ?_ | refine And.intro ⟨hsl.1, hsl.2, str_cells _⟩ ?_ | refine ca (ey _) ?_ | refine And.intro hlse ?_ | refine ca (eh _) ?_ | fail)
          refine ⟨(seen, r), ⟨hr.old hk (.inr k2), ?_⟩, ?_, ?_, rfl⟩
          · simp only [List.length_cons] at hm ⊢; omega
          · simp only [List.length_cons] at hm ⊢; omega
          · exact congrArg (fun l => ([(1, str s), (2, .ptr 0 0), (8, .row 1 seen.length), (9, .d (.sl l))] : Env)) hdr
        rw [decide_eq_false k2] at eh
        have how := how k2
        revert ey hlm2 hl16 hfr hnw how
        generalize flM x y = l
        intro hlm2 hl16 hfr hnw ey how
        repeat' (first | refine run ⟨?_⟩ | refine And.intro (by decide) ?_ | refine And.intro ⟨hsl.1, hsl.2, str_cells _⟩ ?_ | refine ca (ey _) ?_ | refine And.intro hlse ?_ | refine ca (eh _) ?_ | fail)
        refine And.intro ⟨rfl, by decide⟩ ?_
        refine And.intro ⟨rfl, hlse, by show roomy (seen.length + 1) 16; unfold roomy; omega⟩ ?_
        refine run ⟨?_⟩
        have hlt : ∀ j, ((r ++ (l.map Fld.t).take j).map D.str).length ≤ r.length + l.length := fun j => by
          rw [List.length_map, List.length_append, List.length_take, List.length_map]; omega
        refine wq_loop (α := Nat) (fun a => l.length - a) (fun a => [(1, str s), (2, .ptr 0 0), (8, .row 1 (seen.length + 1)), (9, .d (.sl ((r ++ (l.map Fld.t).take a).map D.str))), (11, .d (fldsD l)), (14, i64 a)]) (fun _ => [IB x, .row 1 ((seen ++ [y]).map D.str)]) (fun a => a ≤ l.length ∧ s ∉ (l.map Fld.t).take a) ?_ 0 ⟨Nat.zero_le _, by simp⟩ ?_ (by rw [List.map_append] <;> rfl)
        · rintro j ⟨hj, hns⟩
          by_cases g : j < l.length
          · have g' : (j : Int) < ((l.map Fld.D).length : Int) := by rw [hlm2]; omega
            have pj := gFl g
            have htk : (l.map Fld.t).take (j + 1) = (l.map Fld.t).take j ++ [(l.getD j default).t] := by
              rw [List.take_add_one, List.getElem?_map, List.getElem?_eq_getElem g, List.getD_eq_getElem?_getD, List.getElem?_eq_getElem g]; rfl
            have hmt : (l.getD j default).t ∈ l.map Fld.t := List.mem_map.2 ⟨_, getD_mem g, rfl⟩
            revert pj htk hmt
            generalize l.getD j default = z
            obtain ⟨n, t⟩ := z
            intro pj htk hmt
            dsimp only at htk hmt
            by_cases k3 : t = s
            · rw [endB_t (hfr hr (k3 ▸ hmt))]
              repeat' (first | refine run ⟨?_⟩ | refine pickD pj ?_ | fail)
              exact rfl
            · have hns2 : s ∉ (l.map Fld.t).take (j + 1) := by
                rw [htk, List.mem_append, List.mem_singleton, not_or]
                exact ⟨hns, fun e => k3 e.symm⟩
              have hltj := hlt j
              have hgr : ∀ q : List D, grew [IB x, Ob.row 1 ((seen ++ [y]).map D.str)] [IB x, Ob.row 1 ((seen ++ [y]).map D.str), Ob.row 1 q] = true := fun q => (grew_snoc [IB x, Ob.row 1 ((seen ++ [y]).map D.str)] _).trans rfl
              repeat' (first | refine run ⟨?_⟩ | refine pickD pj ?_ | fail)
              refine And.intro ⟨str_cells _, by decide⟩ ?_
              refine And.intro (fun hq => ?_) (fun hq => And.intro (by unfold roomy; simp only [List.length_cons] at hm; omega) ?_)
              · repeat' (first | refine run ⟨?_⟩ | refine pickD pj ?_ | fail)
                refine And.intro ⟨rfl, by decide⟩ ?_
                refine And.intro (fun h => absurd h (by simp)) (fun _ => And.intro (by show roomy 1 16; decide) ?_)
                refine run ⟨?_⟩
                rw [List.map_eq_nil_iff] at hq
                refine ⟨j + 1, ⟨by omega, hns2⟩, by omega, ?_, rfl⟩
                rw [htk, ← List.append_assoc, hq, i64w (by omega)] <;> rfl
              · repeat' (first | refine run ⟨?_⟩ | refine And.intro (hgr _) ?_ | refine pickD pj ?_ | fail)
                refine And.intro ⟨rfl, by decide⟩ ?_
                refine And.intro ⟨rfl, rfl, by show roomy (_ + 1) 16; unfold roomy; simp only [List.length_cons] at hm; omega⟩ ?_
                refine run ⟨?_⟩
                refine And.intro (by rw [List.length_append] <;> rfl) ?_
                refine run ⟨?_⟩
                refine ⟨j + 1, ⟨by omega, hns2⟩, by omega, ?_, rfl⟩
                rw [htk, ← List.append_assoc, List.map_append (l₁ := r ++ _), i64w (by omega)] <;> rfl
          · have g' : ¬ (j : Int) < ((l.map Fld.D).length : Int) := by rw [hlm2]; omega
            obtain rfl : j = l.length := by omega
            rw [List.take_of_length_le (by rw [List.length_map]; exact Nat.le_refl _)] at hns ⊢
            refine run ⟨?_⟩
            refine ⟨(seen ++ [y], r ++ l.map Fld.t), ⟨hnw hr hns, ?_⟩, ?_, ?_, rfl⟩
            · simp only [List.length_append, List.length_cons, List.length_nil] at hm how ⊢; omega
            · simp only [List.length_append, List.length_cons, List.length_nil] at hm how ⊢; omega
            · dsimp only; rw [show (seen ++ [y]).length = seen.length + 1 by rw [List.length_append]; rfl] <;> rfl
        · exact congrArg (fun q => ([(1, str s), (2, .ptr 0 0), (8, .row 1 (seen.length + 1)), (9, .d (.sl q)), (11, .d (fldsD l)), (14, i64 0)] : Env)) (by rw [List.take_zero, List.append_nil]; exact hdr)
end
end Go.Vm.Typ
namespace Go.Vm.Typ
open Go Go.Vm Go.Proofs Go.Vm.Ip
open Go.Vm.Lex (nameB)
set_option maxRecDepth 10000
theorem some_split (l : List Fld) (j : Nat) : someT l = someT (l.take j) ++ someT (l.drop j) := by
  have e1 : l = l.take j ++ l.drop j := (List.take_append_drop _ _).symm
  have e2 : someT (l.take j ++ l.drop j) = someT (l.take j) ++ someT (l.drop j) := by
    unfold someT; rw [List.map_append, List.filter_append]
  rw [← e2, ← e1]
section
variable {fx : Nat → Option Obj} {F : Nat → Option VFun}
set_option maxHeartbeats 4000000 in
theorem size14_s (x : Its) (hx : Fine x) (nd : Nmd x) (hsm : ∀ n, (flM x n).length ≤ 16) : ∀ (f : Nat) (s : S), deepOk x f s → s ≠ [] → ∀ H, evF (pgL fx F) n_ref14_size [.d x.D, str s] H = some (.tup [i64 (tgt (szF x f s)).1, i64 (tgt (szF x f s)).2], H)
  | 0, _, h, _, _ => h.elim
  | f + 1, s, hdeep, hs0, H => by
    have ih := fun (y : S) (hy : y ∈ (heldM x s).1) (h0 : y ≠ []) => size14_s x hx nd hsm f y (hdeep y hy) h0
    have ep := parts_ev (fx := fx) (F := F) x hx s
    have hl := hsm s
    have hlm : ((flM x s).map Fld.D).length = (flM x s).length := List.length_map ..
    unfold enB at ep
    rw [szF]
    cases cS : known (nS x) s with
    | true =>
      have ck : kn x s = true := by unfold kn; rw [cS]; rfl
      have cu := nd.nu ck
      have cu' : ¬ s = [40, 41] := cu.1
      have cu'' : ¬ s = [] := cu.2
      rw [cS, ck] at ep
      rw [nd.held_S cS] at ih ⊢
      simp only [Bool.false_eq_true, if_false, if_true]
      revert ih ep hl hlm
      generalize flM x s = l
      intro ih ep hl hlm
      refine evF_wq (t_ref14_size (F := F)) rfl rfl ?_ H
      repeat' (first | refine run ⟨?_⟩ | refine ca (ep _) ?_ | fail)
      refine wq_loop (α := Nat × Int × Int × Int) (fun a => l.length - a.1) (fun a => [(2, .ptr 0 0), (6, .d (fldsD l)), (7, boo false), (9, i64 a.2.1), (10, i64 a.2.2.1), (11, i64 a.2.2.2), (12, i64 a.1)]) (fun _ => [IB x]) (fun a => a.1 ≤ l.length ∧ a.2.1 = ((someT (l.take a.1)).foldl (fun a y => addS a (szF x f y)) (0, 1)).2 ∧ a.2.1 ≤ 1024 ∧ 0 ≤ a.2.2.1 ∧ a.2.2.1 ≤ 65 * a.1 ∧ min a.2.2.1 65 = ((someT (l.take a.1)).foldl (fun a y => addS a (szF x f y)) (0, 1)).1 ∧ 0 ≤ a.2.2.2 ∧ a.2.2.2 ≤ 65) ?_ (0, 1, 0, 0) ⟨Nat.zero_le _, rfl, by decide, by decide, by decide, rfl, by decide, by decide⟩ rfl rfl
      rintro ⟨j, n, w, mo⟩ ⟨hj, hn, hn1, hw0, hw1, hw2, hm0, hm1⟩
      dsimp only at hj hn hn1 hw0 hw1 hw2 hm0 hm1
      by_cases h : j < l.length
      · have h' : (j : Int) < ((l.map Fld.D).length : Int) := by rw [hlm]; omega
        have pj := gFl h
        have hst := someT_succ h
        have hin : (l.getD j default).t ≠ [] → (l.getD j default).t ∈ someT l := fun hn => someT_mem.2 ⟨hn, l.getD j default, getD_mem h, rfl⟩
        have hsp := some_split l (j + 1)
        revert pj hst hin
        generalize l.getD j default = y
        obtain ⟨fn, t⟩ := y
        intro pj hst hin
        dsimp only at hst hin
        by_cases ct : t = []
        · rw [ct] at hst; simp only [if_true] at hst
          repeat' (first | refine run ⟨?_⟩ | refine pickD pj ?_ | fail)
          exact ⟨(j + 1, n, w, mo), ⟨by show j + 1 ≤ _; omega, by rw [hst]; exact hn, hn1, hw0, by show w ≤ 65 * ((j + 1 : Nat) : Int); omega, by rw [hst]; exact hw2, hm0, hm1⟩, by show _ - (j + 1) < _ - j; omega, by dsimp only; rw [i64w (by omega)] <;> rfl, rfl⟩
        · rw [if_neg ct] at hst
          have ew := ih t (hin ct) ct
          have hb := szF_bound x f t
          have hfin := foldS2 (g := szF x f) (fun y => (szF_bound x f y).2.2.1) (someT (l.drop (j + 1))) ((someT (l.take (j + 1))).foldl (fun a y => addS a (szF x f y)) (0, 1)) (foldS2 (g := szF x f) (fun y => (szF_bound x f y).2.2.1) (someT (l.take (j + 1))) (0, 1) (by decide)).2
          rw [← List.foldl_append, ← hsp] at hfin
          have hA : (someT (l.take (j + 1))).foldl (fun a y => addS a (szF x f y)) (0, 1) = addS ((someT (l.take j)).foldl (fun a y => addS a (szF x f y)) (0, 1)) (szF x f t) := by rw [hst, List.foldl_append]; rfl
          rw [hA] at hfin
          have hge := (foldS2 (g := szF x f) (fun y => (szF_bound x f y).2.2.1) (someT (l.take j)) (0, 1) (by decide)).1
          rw [← hn] at hge
          replace hge : (1 : Int) ≤ n := hge
          revert ew hb hA hfin hn hw2
          generalize szF x f t = v
          generalize (someT (l.take j)).foldl (fun a y => addS a (szF x f y)) (0, 1) = A
          intro hn hw2 ew hb hfin hA
          have hA2 : (A.2 + v.2 ≤ 1025 ∧ (addS A v).2 = A.2 + v.2) ∨ (1025 ≤ A.2 + v.2 ∧ (addS A v).2 = 1025) := by simp only [addS]; omega
          obtain ⟨q, hq⟩ : ∃ q, q = (addS A v).2 := ⟨_, rfl⟩
          rw [← hq] at hfin hA2
          obtain ⟨Z, hZ⟩ : ∃ Z, Z = (List.foldl (fun a y => addS a (szF x f y)) (0, 1) (someT l)) := ⟨_, rfl⟩
          rw [← hZ] at hfin ⊢
          by_cases cb : n + (tgt v).1 ≤ 1024
          · have cv : v.2 ≤ 1024 := by
              rcases Int.lt_or_le 1024 v.2 with q | q
              · rw [tgt_big (by omega)] at cb; dsimp only at cb; omega
              · exact q
            rw [tgt_le cv] at cb ew
            dsimp only at cb ew
            have w1 : IntKind.i64.wrap (n + v.2) = n + v.2 := i64w (by omega)
            have w2 : IntKind.i64.wrap (w + min v.1 65) = w + min v.1 65 := i64w (by omega)
            have cb' : ¬ (1024 < IntKind.i64.wrap (n + v.2)) := by rw [w1]; omega
            have fin : ∀ mo', mo' = max mo (min v.1 65) → ∃ a' : Nat × Int × Int × Int, (a'.1 ≤ l.length ∧ a'.2.1 = ((someT (l.take a'.1)).foldl (fun a y => addS a (szF x f y)) (0, 1)).2 ∧ a'.2.1 ≤ 1024 ∧ 0 ≤ a'.2.2.1 ∧ a'.2.2.1 ≤ 65 * a'.1 ∧ min a'.2.2.1 65 = ((someT (l.take a'.1)).foldl (fun a y => addS a (szF x f y)) (0, 1)).1 ∧ 0 ≤ a'.2.2.2 ∧ a'.2.2.2 ≤ 65) ∧ l.length - a'.1 < l.length - j ∧ a' = (j + 1, n + v.2, w + min v.1 65, mo') := fun mo' hmo => ⟨(j + 1, n + v.2, w + min v.1 65, mo'), ⟨by show j + 1 ≤ _; omega, by rw [hA]; show n + v.2 = (addS A v).2; rw [← hq]; omega, by show n + v.2 ≤ _; omega, by show 0 ≤ w + min v.1 65; omega, by show w + min v.1 65 ≤ 65 * ((j + 1 : Nat) : Int); omega, by rw [hA, hmo]; show min (w + min v.1 65) 65 = (addS A v).1; simp only [addS]; omega, by show 0 ≤ mo'; omega, by show mo' ≤ 65; omega⟩, by show _ - (j + 1) < _ - j; omega, rfl⟩
            by_cases cm : mo < min v.1 65
            · obtain ⟨a', f1, f2, rfl⟩ := fin (min v.1 65) (by omega)
              repeat' (first | refine run ⟨?_⟩ | refine pickD pj ?_ | refine ca (ew _) ?_ | fail)
              exact ⟨_, f1, f2, by dsimp only; rw [w1, w2, i64w (by omega)] <;> rfl, rfl⟩
            · obtain ⟨a', f1, f2, rfl⟩ := fin mo (by omega)
              repeat' (first | refine run ⟨?_⟩ | refine pickD pj ?_ | refine ca (ew _) ?_ | fail)
              exact ⟨_, f1, f2, by dsimp only; rw [w1, w2, i64w (by omega)] <;> rfl, rfl⟩
          · have cf : 1025 ≤ Z.2 := by
              rcases Int.lt_or_le 1024 v.2 with q | q
              · omega
              · rw [tgt_le q] at cb; dsimp only at cb; omega
            rw [tgt_big cf]
            have ct1 : 0 ≤ (tgt v).1 ∧ (tgt v).1 ≤ 1025 := by
              rcases Int.lt_or_le 1024 v.2 with q | q
              · rw [tgt_big (by omega)]; exact ⟨by decide, by decide⟩
              · rw [tgt_le q]; dsimp only; omega
            revert ew cb ct1
            generalize tgt v = u
            intro ew cb ct1
            have cb' : 1024 < IntKind.i64.wrap (n + u.1) := by rw [i64w (by omega)]; omega
            repeat' (first | refine run ⟨?_⟩ | refine pickD pj ?_ | refine ca (ew _) ?_ | fail)
            exact rfl
      · have h' : ¬ (j : Int) < ((l.map Fld.D).length : Int) := by rw [hlm]; omega
        obtain rfl : j = l.length := by omega
        rw [List.take_length] at hn hw2
        revert hn hw2
        generalize (someT l).foldl (fun a y => addS a (szF x f y)) (0, 1) = A
        intro hn hw2
        rw [tgt_le (by omega)]
        by_cases cw : 64 < w
        · have e1 : min A.1 65 = 65 := by omega
          rw [e1, ← hn]
          refine run ⟨?_⟩
          exact rfl
        · have e1 : min A.1 65 = w := by omega
          rw [e1, ← hn]
          refine run ⟨?_⟩
          exact rfl
    | false =>
    cases cE : known (nE x) s with
    | true =>
      have ck : kn x s = true := by unfold kn; rw [cE, Bool.or_true]
      have cu := nd.nu ck
      have cu' : ¬ s = [40, 41] := cu.1
      have cu'' : ¬ s = [] := cu.2
      rw [cS, cE, ck] at ep
      rw [held_E cS cE] at ih ⊢
      simp only [if_true]
      revert ih ep hl hlm
      generalize flM x s = l
      intro ih ep hl hlm
      refine evF_wq (t_ref14_size (F := F)) rfl rfl ?_ H
      repeat' (first | refine run ⟨?_⟩ | refine ca (ep _) ?_ | fail)
      refine wq_loop (α := Nat × Int × Int × Int) (fun a => l.length - a.1) (fun a => [(2, .ptr 0 0), (6, .d (fldsD l)), (7, boo true), (9, i64 a.2.1), (10, i64 a.2.2.1), (11, i64 a.2.2.2), (12, i64 a.1)]) (fun _ => [IB x]) (fun a => a.1 ≤ l.length ∧ a.2.1 = ((someT (l.take a.1)).foldl (fun a y => addE a (szF x f y)) (1, 1)).2 ∧ a.2.1 ≤ 1024 ∧ 0 ≤ a.2.2.1 ∧ a.2.2.1 ≤ 65 * a.1 ∧ min (1 + a.2.2.2) 65 = min ((someT (l.take a.1)).foldl (fun a y => addE a (szF x f y)) (1, 1)).1 65 ∧ 0 ≤ a.2.2.2 ∧ a.2.2.2 ≤ 65) ?_ (0, 1, 0, 0) ⟨Nat.zero_le _, rfl, by decide, by decide, by decide, rfl, by decide, by decide⟩ rfl rfl
      rintro ⟨j, n, w, mo⟩ ⟨hj, hn, hn1, hw0, hw1, hw2, hm0, hm1⟩
      dsimp only at hj hn hn1 hw0 hw1 hw2 hm0 hm1
      by_cases h : j < l.length
      · have h' : (j : Int) < ((l.map Fld.D).length : Int) := by rw [hlm]; omega
        have pj := gFl h
        have hst := someT_succ h
        have hin : (l.getD j default).t ≠ [] → (l.getD j default).t ∈ someT l := fun hn => someT_mem.2 ⟨hn, l.getD j default, getD_mem h, rfl⟩
        have hsp := some_split l (j + 1)
        revert pj hst hin
        generalize l.getD j default = y
        obtain ⟨fn, t⟩ := y
        intro pj hst hin
        dsimp only at hst hin
        by_cases ct : t = []
        · rw [ct] at hst; simp only [if_true] at hst
          repeat' (first | refine run ⟨?_⟩ | refine pickD pj ?_ | fail)
          exact ⟨(j + 1, n, w, mo), ⟨by show j + 1 ≤ _; omega, by rw [hst]; exact hn, hn1, hw0, by show w ≤ 65 * ((j + 1 : Nat) : Int); omega, by rw [hst]; exact hw2, hm0, hm1⟩, by show _ - (j + 1) < _ - j; omega, by dsimp only; rw [i64w (by omega)] <;> rfl, rfl⟩
        · rw [if_neg ct] at hst
          have ew := ih t (hin ct) ct
          have hb := szF_bound x f t
          have hfin := foldE2 (g := szF x f) (fun y => (szF_bound x f y).2.2.1) (someT (l.drop (j + 1))) ((someT (l.take (j + 1))).foldl (fun a y => addE a (szF x f y)) (1, 1)) (foldE2 (g := szF x f) (fun y => (szF_bound x f y).2.2.1) (someT (l.take (j + 1))) (1, 1) (by decide)).2
          rw [← List.foldl_append, ← hsp] at hfin
          have hA : (someT (l.take (j + 1))).foldl (fun a y => addE a (szF x f y)) (1, 1) = addE ((someT (l.take j)).foldl (fun a y => addE a (szF x f y)) (1, 1)) (szF x f t) := by rw [hst, List.foldl_append]; rfl
          rw [hA] at hfin
          have hge := (foldE2 (g := szF x f) (fun y => (szF_bound x f y).2.2.1) (someT (l.take j)) (1, 1) (by decide)).1
          rw [← hn] at hge
          replace hge : (1 : Int) ≤ n := hge
          revert ew hb hA hfin hn hw2
          generalize szF x f t = v
          generalize (someT (l.take j)).foldl (fun a y => addE a (szF x f y)) (1, 1) = A
          intro hn hw2 ew hb hfin hA
          have hA2 : (A.2 + v.2 ≤ 1025 ∧ (addE A v).2 = A.2 + v.2) ∨ (1025 ≤ A.2 + v.2 ∧ (addE A v).2 = 1025) := by simp only [addE]; omega
          obtain ⟨q, hq⟩ : ∃ q, q = (addE A v).2 := ⟨_, rfl⟩
          rw [← hq] at hfin hA2
          obtain ⟨Z, hZ⟩ : ∃ Z, Z = (List.foldl (fun a y => addE a (szF x f y)) (1, 1) (someT l)) := ⟨_, rfl⟩
          rw [← hZ] at hfin ⊢
          by_cases cb : n + (tgt v).1 ≤ 1024
          · have cv : v.2 ≤ 1024 := by
              rcases Int.lt_or_le 1024 v.2 with q | q
              · rw [tgt_big (by omega)] at cb; dsimp only at cb; omega
              · exact q
            rw [tgt_le cv] at cb ew
            dsimp only at cb ew
            have w1 : IntKind.i64.wrap (n + v.2) = n + v.2 := i64w (by omega)
            have w2 : IntKind.i64.wrap (w + min v.1 65) = w + min v.1 65 := i64w (by omega)
            have cb' : ¬ (1024 < IntKind.i64.wrap (n + v.2)) := by rw [w1]; omega
            have fin : ∀ mo', mo' = max mo (min v.1 65) → ∃ a' : Nat × Int × Int × Int, (a'.1 ≤ l.length ∧ a'.2.1 = ((someT (l.take a'.1)).foldl (fun a y => addE a (szF x f y)) (1, 1)).2 ∧ a'.2.1 ≤ 1024 ∧ 0 ≤ a'.2.2.1 ∧ a'.2.2.1 ≤ 65 * a'.1 ∧ min (1 + a'.2.2.2) 65 = min ((someT (l.take a'.1)).foldl (fun a y => addE a (szF x f y)) (1, 1)).1 65 ∧ 0 ≤ a'.2.2.2 ∧ a'.2.2.2 ≤ 65) ∧ l.length - a'.1 < l.length - j ∧ a' = (j + 1, n + v.2, w + min v.1 65, mo') := fun mo' hmo => ⟨(j + 1, n + v.2, w + min v.1 65, mo'), ⟨by show j + 1 ≤ _; omega, by rw [hA]; show n + v.2 = (addE A v).2; rw [← hq]; omega, by show n + v.2 ≤ _; omega, by show 0 ≤ w + min v.1 65; omega, by show w + min v.1 65 ≤ 65 * ((j + 1 : Nat) : Int); omega, by rw [hA, hmo]; show min (1 + max mo (min v.1 65)) 65 = min (addE A v).1 65; simp only [addE]; omega, by show 0 ≤ mo'; omega, by show mo' ≤ 65; omega⟩, by show _ - (j + 1) < _ - j; omega, rfl⟩
            by_cases cm : mo < min v.1 65
            · obtain ⟨a', f1, f2, rfl⟩ := fin (min v.1 65) (by omega)
              repeat' (first | refine run ⟨?_⟩ | refine pickD pj ?_ | refine ca (ew _) ?_ | fail)
              exact ⟨_, f1, f2, by dsimp only; rw [w1, w2, i64w (by omega)] <;> rfl, rfl⟩
            · obtain ⟨a', f1, f2, rfl⟩ := fin mo (by omega)
              repeat' (first | refine run ⟨?_⟩ | refine pickD pj ?_ | refine ca (ew _) ?_ | fail)
              exact ⟨_, f1, f2, by dsimp only; rw [w1, w2, i64w (by omega)] <;> rfl, rfl⟩
          · have cf : 1025 ≤ Z.2 := by
              rcases Int.lt_or_le 1024 v.2 with q | q
              · omega
              · rw [tgt_le q] at cb; dsimp only at cb; omega
            rw [tgt_big cf]
            have ct1 : 0 ≤ (tgt v).1 ∧ (tgt v).1 ≤ 1025 := by
              rcases Int.lt_or_le 1024 v.2 with q | q
              · rw [tgt_big (by omega)]; exact ⟨by decide, by decide⟩
              · rw [tgt_le q]; dsimp only; omega
            revert ew cb ct1
            generalize tgt v = u
            intro ew cb ct1
            have cb' : 1024 < IntKind.i64.wrap (n + u.1) := by rw [i64w (by omega)]; omega
            repeat' (first | refine run ⟨?_⟩ | refine pickD pj ?_ | refine ca (ew _) ?_ | fail)
            exact rfl
      · have h' : ¬ (j : Int) < ((l.map Fld.D).length : Int) := by rw [hlm]; omega
        obtain rfl : j = l.length := by omega
        rw [List.take_length] at hn hw2
        revert hn hw2
        generalize (someT l).foldl (fun a y => addE a (szF x f y)) (1, 1) = A
        intro hn hw2
        rw [tgt_le (by omega)]
        have w3 : IntKind.i64.wrap (1 + mo) = 1 + mo := i64w (by omega)
        by_cases cw : 64 < 1 + mo
        · have cw' : 64 < IntKind.i64.wrap (1 + mo) := by rw [w3]; omega
          have e1 : min A.1 65 = 65 := by omega
          rw [e1, ← hn]
          refine run ⟨?_⟩
          exact rfl
        · have cw' : ¬ 64 < IntKind.i64.wrap (1 + mo) := by rw [w3]; omega
          have e1 : min A.1 65 = 1 + mo := by omega
          rw [e1, ← hn]
          refine run ⟨?_⟩
          rw [w3]; exact rfl
    | false =>
      have ck : kn x s = false := by unfold kn; rw [cS, cE]; rfl
      rw [cS, cE, ck] at ep
      rw [held_N cS cE]
      simp only [Bool.false_eq_true, if_false]
      refine evF_wq (t_ref14_size (F := F)) rfl rfl ?_ H
      generalize flM x s = l at ep
      by_cases cu : s = unitT
      · have cu' : s = [40, 41] := cu
        rw [if_pos cu]
        repeat' (first | refine run ⟨?_⟩ | refine ca (ep _) ?_ | fail)
        exact rfl
      · have cu' : ¬ s = [40, 41] := cu
        rw [if_neg cu]
        repeat' (first | refine run ⟨?_⟩ | refine ca (ep _) ?_ | fail)
        exact rfl
end
end Go.Vm.Typ
