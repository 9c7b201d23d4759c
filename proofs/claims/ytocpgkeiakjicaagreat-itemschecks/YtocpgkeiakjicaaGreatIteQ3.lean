import Derived.Test.YtocpgkeiakjicaaGreatIteV16
import Derived.Test.YtocpgkeiakjicaaGreatVmNum
import Derived.Test.YtocpgkeiakjicaaGreatTypP11
import Derived.Test.YtocpgkeiakjicaaGreatIteL
import Derived.Test.YtocpgkeiakjicaaGreatIteMv
set_option linter.unusedSimpArgs false
set_option linter.unusedVariables false
namespace Go.Vm.Ite
open Go Go.Vm Go.Proofs Go.Vm.Ip
open Go.Vm.Lex (nameB)
set_option maxRecDepth 10000
theorem str_cells (l : List S) : ((l.map D.str).all (fun y => y.cells.length == 1)) = true := by
  rw [List.all_eq_true]; intro y hy; obtain ⟨s, _, rfl⟩ := List.mem_map.1 hy; rfl
abbrev ow14 (x : Its) (seen : List S) : Nat := owG (fun n => (flT x n).length) seen (nS x ++ nE x)
section
variable {fx : Nat → Option Obj} {F : Nat → Option VFun}
set_option maxHeartbeats 4000000 in
theorem endless14_ev (x : Its) (hx : Fine x) (hnm : ∀ s, kn x s = true → nameB s = true) (hsm : ∀ n, (flM x n).length ≤ 16) (hl : (nS x ++ nE x).length ≤ 128) (s : S) (hk : kn x s = true) (H : Hp) : evF (pgL fx F) n_ref14_endless [.d x.D, str s] H = some (boo (end14 x s), H) := by
 have ep := parts_ev (fx := fx) (F := F) x hx
 have hs0 : s ≠ [] := fun e => by have := hnm s hk; rw [e] at this; exact absurd this (by decide)
 have hft : ∀ n, (flT x n).length ≤ 16 := fun n => by unfold flT; rw [List.length_map]; exact hsm n
 have hb0 : ow14 x [] ≤ 2048 := Nat.le_trans (owG_bound hft [] _) (by omega)
 refine evF_wq (t_ref14_endless (F := F)) rfl rfl ?_ H
 have e1 := ep s
 rw [hk] at e1
 unfold end14
 have hlm : ((flM x s).map Fld.D).length = (flM x s).length := List.length_map ..
 have ha := hsm s
 cases c1 : enB x s with
 | true =>
  rw [c1] at e1
  by_cases c2 : flM x s = []
  ·rw [decide_eq_true c2]
   rw [c2] at e1
   repeat' (first | refine run ⟨?_⟩ | refine ca (e1 _) ?_ | fail)
   exact rfl
  ·rw [decide_eq_false c2]
   have c2' : ¬ ((((flM x s).map Fld.D).length : Nat) : Int) = 0 := by
    rw [hlm]; intro e; exact c2 (List.length_eq_zero_iff.1 (by omega))
   revert e1 c2' c2 hlm ha
   generalize flM x s = l0
   intro e1 hlm ha c2 c2'
   simp only [Bool.true_and, Bool.false_or]
   repeat' (first | refine run ⟨?_⟩ | refine ca (e1 _) ?_ | fail)
   refine wq_loop (α := List S × List S) (fun a => a.2.length + ow14 x a.1) (fun a => [(1, str s), (2, .ptr 0 0), (8, .row 1 a.1.length), (9, .d (.sl (a.2.map D.str)))]) (fun a => [IB x, .row 1 (a.1.map D.str)]) (fun a => Sr14 x s a.1 a.2 ∧ a.1.length + a.2.length + ow14 x a.1 ≤ 2049) ?_ ([], [s]) ⟨.start x s, by show 0 + 1 + ow14 x [] ≤ _; omega⟩ rfl rfl
   rintro ⟨seen, todo⟩ ⟨hr, hm⟩
   dsimp only at hr hm
   cases todo with
   | nil =>
    have h' : ¬ (0 : Int) < ((([] : List S).map D.str).length : Int) := by decide
    rw [endB_f hr.end]
    refine run ⟨?_⟩
    exact rfl
   | cons y r =>
    have hlr : ((y :: r).map D.str).length = r.length + 1 := by simp
    have h' : (0 : Int) < (((y :: r).map D.str).length : Int) := by rw [hlr]; omega
    have hsl : (1 : Nat) ≤ ((y :: r).map D.str).length ∧ ((y :: r).map D.str).length ≤ ((y :: r).map D.str).length := by rw [hlr]; omega
    have hdr : (((y :: r).map D.str).take ((y :: r).map D.str).length).drop 1 = r.map D.str := by rw [List.take_length]; rfl
    have hlse : (seen.map D.str).length = seen.length := List.length_map ..
    have ey := ep y
    have eh := has_ev (fx := fx) (F := F) seen (Nat.le_trans (show seen.length ≤ 2049 by omega) (by decide)) y
    cases k1 : kn x y with
    | false =>
     rw [k1] at ey
     generalize flM x y = l at ey
     generalize enB x y = en at ey
     repeat' (first | refine run ⟨?_⟩ | refine And.intro (by decide) ?_ | refine And.intro ⟨hsl.1, hsl.2, str_cells _⟩ ?_ | refine ca (ey _) ?_ | fail)
     refine ⟨(seen, r), ⟨hr.old hk (.inl k1), ?_⟩, ?_, ?_, rfl⟩
     ·simp only [List.length_cons] at hm ⊢; omega
     ·simp only [List.length_cons] at hm ⊢; omega
     ·exact congrArg (fun l => ([(1, str s), (2, .ptr 0 0), (8, .row 1 seen.length), (9, .d (.sl l))] : Env)) hdr
    | true =>
    rw [k1] at ey
    have hlm2 : ((flM x y).map Fld.D).length = (flM x y).length := List.length_map ..
    have hl16 := hsm y
    have hfr : Sr14 x s seen (y :: r) → s ∈ (flM x y).map Fld.t → Gets x s s := fun h => h.found hs0 k1
    have hnw : Sr14 x s seen (y :: r) → s ∉ (flM x y).map Fld.t → Sr14 x s (seen ++ [y]) (r ++ (flM x y).map Fld.t) := fun h => h.new hnm k1
    have how : y ∉ seen → ow14 x (seen ++ [y]) + ((flM x y).map Fld.t).length ≤ ow14 x seen := fun h => owG_lt _ h _ (kn_mem.1 k1)
    generalize enB x y = en at ey
    by_cases k2 : y ∈ seen
    ·rw [decide_eq_true k2] at eh
     generalize flM x y = l at ey
     repeat' (first | refine run ⟨?_⟩ | refine And.intro (by decide) ?_ | refine And.intro ⟨hsl.1, hsl.2, str_cells _⟩ ?_ | refine ca (ey _) ?_ | refine And.intro hlse ?_ | refine ca (eh _) ?_ | fail)
     refine ⟨(seen, r), ⟨hr.old hk (.inr k2), ?_⟩, ?_, ?_, rfl⟩
     ·simp only [List.length_cons] at hm ⊢; omega
     ·simp only [List.length_cons] at hm ⊢; omega
     ·exact congrArg (fun l => ([(1, str s), (2, .ptr 0 0), (8, .row 1 seen.length), (9, .d (.sl l))] : Env)) hdr
    rw [decide_eq_false k2] at eh
    have how := how k2
    revert ey hlm2 hl16 hfr hnw how
    generalize flM x y = l
    intro hlm2 hl16 hfr hnw ey how
    repeat' (first | refine run ⟨?_⟩ | refine And.intro (by decide) ?_ | refine And.intro ⟨hsl.1, hsl.2, str_cells _⟩ ?_ | refine ca (ey _) ?_ | refine And.intro hlse ?_ | refine ca (eh _) ?_ | fail)
    refine And.intro ⟨rfl, by decide⟩ ?_
    refine And.intro ⟨rfl, hlse, by show roomy (seen.length + 1) 16; unfold roomy; omega⟩ ?_
    refine run ⟨?_⟩
    have hlt : ∀ j, ((r ++ (l.map Fld.t).take j).map D.str).length ≤ r.length + l.length := fun j => by
      rw [List.length_map, List.length_append, List.length_take, List.length_map]; omega
    refine wq_loop (α := Nat) (fun a => l.length - a) (fun a => [(1, str s), (2, .ptr 0 0), (8, .row 1 (seen.length + 1)), (9, .d (.sl ((r ++ (l.map Fld.t).take a).map D.str))), (11, .d (fldsD l)), (14, i64 a)]) (fun _ => [IB x, .row 1 ((seen ++ [y]).map D.str)]) (fun a => a ≤ l.length ∧ s ∉ (l.map Fld.t).take a) ?_ 0 ⟨Nat.zero_le _, by simp⟩ ?_ (by rw [List.map_append] <;> rfl)
    ·rintro j ⟨hj, hns⟩
     by_cases g : j < l.length
     ·have g' : (j : Int) < ((l.map Fld.D).length : Int) := by rw [hlm2]; omega
      have pj := gFl g
      have htk : (l.map Fld.t).take (j + 1) = (l.map Fld.t).take j ++ [(l.getD j default).t] := by
       rw [List.take_add_one, List.getElem?_map, List.getElem?_eq_getElem g, List.getD_eq_getElem?_getD, List.getElem?_eq_getElem g]; rfl
      have hmt : (l.getD j default).t ∈ l.map Fld.t := List.mem_map.2 ⟨_, getD_mem g, rfl⟩
      revert pj htk hmt
      generalize l.getD j default = z
      obtain ⟨n, t⟩ := z
      intro pj htk hmt
      dsimp only at htk hmt
      by_cases k3 : t = s
      ·rw [endB_t (hfr hr (k3 ▸ hmt))]
       repeat' (first | refine run ⟨?_⟩ | refine pickD pj ?_ | fail)
       exact rfl
      ·have hns2 : s ∉ (l.map Fld.t).take (j + 1) := by
        rw [htk, List.mem_append, List.mem_singleton, not_or]
        exact ⟨hns, fun e => k3 e.symm⟩
       have hltj := hlt j
       have hgr : ∀ q : List D, grew [IB x, Ob.row 1 ((seen ++ [y]).map D.str)] [IB x, Ob.row 1 ((seen ++ [y]).map D.str), Ob.row 1 q] = true := fun q => (grew_snoc [IB x, Ob.row 1 ((seen ++ [y]).map D.str)] _).trans rfl
       repeat' (first | refine run ⟨?_⟩ | refine pickD pj ?_ | fail)
       refine And.intro ⟨str_cells _, by decide⟩ ?_
       refine And.intro (fun hq => ?_) (fun hq => And.intro (by unfold roomy; simp only [List.length_cons] at hm; omega) ?_)
       ·repeat' (first | refine run ⟨?_⟩ | refine pickD pj ?_ | fail)
        refine And.intro ⟨rfl, by decide⟩ ?_
        refine And.intro (fun h => absurd h (by simp)) (fun _ => And.intro (by show roomy 1 16; decide) ?_)
        refine run ⟨?_⟩
        rw [List.map_eq_nil_iff] at hq
        refine ⟨j + 1, ⟨by omega, hns2⟩, by omega, ?_, rfl⟩
        rw [htk, ← List.append_assoc, hq, i64w (by omega)] <;> rfl
       ·repeat' (first | refine run ⟨?_⟩ | refine And.intro (hgr _) ?_ | refine pickD pj ?_ | fail)
        refine And.intro ⟨rfl, by decide⟩ ?_
        refine And.intro ⟨rfl, rfl, by show roomy (_ + 1) 16; unfold roomy; simp only [List.length_cons] at hm; omega⟩ ?_
        refine run ⟨?_⟩
        refine And.intro (by rw [List.length_append] <;> rfl) ?_
        refine run ⟨?_⟩
        refine ⟨j + 1, ⟨by omega, hns2⟩, by omega, ?_, rfl⟩
        rw [htk, ← List.append_assoc, List.map_append (l₁ := r ++ _), i64w (by omega)] <;> rfl
     ·have g' : ¬ (j : Int) < ((l.map Fld.D).length : Int) := by rw [hlm2]; omega
      obtain rfl : j = l.length := by omega
      rw [List.take_of_length_le (by rw [List.length_map]; exact Nat.le_refl _)] at hns ⊢
      refine run ⟨?_⟩
      refine ⟨(seen ++ [y], r ++ l.map Fld.t), ⟨hnw hr hns, ?_⟩, ?_, ?_, rfl⟩
      ·simp only [List.length_append, List.length_cons, List.length_nil] at hm how ⊢; omega
      ·simp only [List.length_append, List.length_cons, List.length_nil] at hm how ⊢; omega
      ·dsimp only; rw [show (seen ++ [y]).length = seen.length + 1 by rw [List.length_append]; rfl] <;> rfl
    ·exact congrArg (fun q => ([(1, str s), (2, .ptr 0 0), (8, .row 1 (seen.length + 1)), (9, .d (.sl q)), (11, .d (fldsD l)), (14, i64 0)] : Env)) (by rw [List.take_zero, List.append_nil]; exact hdr)
 | false =>
  rw [c1] at e1
  ·generalize flM x s = l0 at e1
   simp only [Bool.false_and, Bool.false_or]
   repeat' (first | refine run ⟨?_⟩ | refine ca (e1 _) ?_ | fail)
   refine wq_loop (α := List S × List S) (fun a => a.2.length + ow14 x a.1) (fun a => [(1, str s), (2, .ptr 0 0), (8, .row 1 a.1.length), (9, .d (.sl (a.2.map D.str)))]) (fun a => [IB x, .row 1 (a.1.map D.str)]) (fun a => Sr14 x s a.1 a.2 ∧ a.1.length + a.2.length + ow14 x a.1 ≤ 2049) ?_ ([], [s]) ⟨.start x s, by show 0 + 1 + ow14 x [] ≤ _; omega⟩ rfl rfl
   rintro ⟨seen, todo⟩ ⟨hr, hm⟩
   dsimp only at hr hm
   cases todo with
   | nil =>
    have h' : ¬ (0 : Int) < ((([] : List S).map D.str).length : Int) := by decide
    rw [endB_f hr.end]
    refine run ⟨?_⟩
    exact rfl
   | cons y r =>
    have hlr : ((y :: r).map D.str).length = r.length + 1 := by simp
    have h' : (0 : Int) < (((y :: r).map D.str).length : Int) := by rw [hlr]; omega
    have hsl : (1 : Nat) ≤ ((y :: r).map D.str).length ∧ ((y :: r).map D.str).length ≤ ((y :: r).map D.str).length := by rw [hlr]; omega
    have hdr : (((y :: r).map D.str).take ((y :: r).map D.str).length).drop 1 = r.map D.str := by rw [List.take_length]; rfl
    have hlse : (seen.map D.str).length = seen.length := List.length_map ..
    have ey := ep y
    have eh := has_ev (fx := fx) (F := F) seen (Nat.le_trans (show seen.length ≤ 2049 by omega) (by decide)) y
    cases k1 : kn x y with
    | false =>
     rw [k1] at ey
     generalize flM x y = l at ey
     generalize enB x y = en at ey
     repeat' (first | refine run ⟨?_⟩ | refine And.intro (by decide) ?_ | refine And.intro ⟨hsl.1, hsl.2, str_cells _⟩ ?_ | refine ca (ey _) ?_ | fail)
     refine ⟨(seen, r), ⟨hr.old hk (.inl k1), ?_⟩, ?_, ?_, rfl⟩
     ·simp only [List.length_cons] at hm ⊢; omega
     ·simp only [List.length_cons] at hm ⊢; omega
     ·exact congrArg (fun l => ([(1, str s), (2, .ptr 0 0), (8, .row 1 seen.length), (9, .d (.sl l))] : Env)) hdr
    | true =>
    rw [k1] at ey
    have hlm2 : ((flM x y).map Fld.D).length = (flM x y).length := List.length_map ..
    have hl16 := hsm y
    have hfr : Sr14 x s seen (y :: r) → s ∈ (flM x y).map Fld.t → Gets x s s := fun h => h.found hs0 k1
    have hnw : Sr14 x s seen (y :: r) → s ∉ (flM x y).map Fld.t → Sr14 x s (seen ++ [y]) (r ++ (flM x y).map Fld.t) := fun h => h.new hnm k1
    have how : y ∉ seen → ow14 x (seen ++ [y]) + ((flM x y).map Fld.t).length ≤ ow14 x seen := fun h => owG_lt _ h _ (kn_mem.1 k1)
    generalize enB x y = en at ey
    by_cases k2 : y ∈ seen
    ·rw [decide_eq_true k2] at eh
     generalize flM x y = l at ey
     repeat' (first | refine run ⟨?_⟩ | refine And.intro (by decide) ?_ | refine And.intro ⟨hsl.1, hsl.2, str_cells _⟩ ?_ | refine ca (ey _) ?_ | refine And.intro hlse ?_ | refine ca (eh _) ?_ | fail)
     refine ⟨(seen, r), ⟨hr.old hk (.inr k2), ?_⟩, ?_, ?_, rfl⟩
     ·simp only [List.length_cons] at hm ⊢; omega
     ·simp only [List.length_cons] at hm ⊢; omega
     ·exact congrArg (fun l => ([(1, str s), (2, .ptr 0 0), (8, .row 1 seen.length), (9, .d (.sl l))] : Env)) hdr
    rw [decide_eq_false k2] at eh
    have how := how k2
    revert ey hlm2 hl16 hfr hnw how
    generalize flM x y = l
    intro hlm2 hl16 hfr hnw ey how
    repeat' (first | refine run ⟨?_⟩ | refine And.intro (by decide) ?_ | refine And.intro ⟨hsl.1, hsl.2, str_cells _⟩ ?_ | refine ca (ey _) ?_ | refine And.intro hlse ?_ | refine ca (eh _) ?_ | fail)
    refine And.intro ⟨rfl, by decide⟩ ?_
    refine And.intro ⟨rfl, hlse, by show roomy (seen.length + 1) 16; unfold roomy; omega⟩ ?_
    refine run ⟨?_⟩
    have hlt : ∀ j, ((r ++ (l.map Fld.t).take j).map D.str).length ≤ r.length + l.length := fun j => by
      rw [List.length_map, List.length_append, List.length_take, List.length_map]; omega
    refine wq_loop (α := Nat) (fun a => l.length - a) (fun a => [(1, str s), (2, .ptr 0 0), (8, .row 1 (seen.length + 1)), (9, .d (.sl ((r ++ (l.map Fld.t).take a).map D.str))), (11, .d (fldsD l)), (14, i64 a)]) (fun _ => [IB x, .row 1 ((seen ++ [y]).map D.str)]) (fun a => a ≤ l.length ∧ s ∉ (l.map Fld.t).take a) ?_ 0 ⟨Nat.zero_le _, by simp⟩ ?_ (by rw [List.map_append] <;> rfl)
    ·rintro j ⟨hj, hns⟩
     by_cases g : j < l.length
     ·have g' : (j : Int) < ((l.map Fld.D).length : Int) := by rw [hlm2]; omega
      have pj := gFl g
      have htk : (l.map Fld.t).take (j + 1) = (l.map Fld.t).take j ++ [(l.getD j default).t] := by
       rw [List.take_add_one, List.getElem?_map, List.getElem?_eq_getElem g, List.getD_eq_getElem?_getD, List.getElem?_eq_getElem g]; rfl
      have hmt : (l.getD j default).t ∈ l.map Fld.t := List.mem_map.2 ⟨_, getD_mem g, rfl⟩
      revert pj htk hmt
      generalize l.getD j default = z
      obtain ⟨n, t⟩ := z
      intro pj htk hmt
      dsimp only at htk hmt
      by_cases k3 : t = s
      ·rw [endB_t (hfr hr (k3 ▸ hmt))]
       repeat' (first | refine run ⟨?_⟩ | refine pickD pj ?_ | fail)
       exact rfl
      ·have hns2 : s ∉ (l.map Fld.t).take (j + 1) := by
        rw [htk, List.mem_append, List.mem_singleton, not_or]
        exact ⟨hns, fun e => k3 e.symm⟩
       have hltj := hlt j
       have hgr : ∀ q : List D, grew [IB x, Ob.row 1 ((seen ++ [y]).map D.str)] [IB x, Ob.row 1 ((seen ++ [y]).map D.str), Ob.row 1 q] = true := fun q => (grew_snoc [IB x, Ob.row 1 ((seen ++ [y]).map D.str)] _).trans rfl
       repeat' (first | refine run ⟨?_⟩ | refine pickD pj ?_ | fail)
       refine And.intro ⟨str_cells _, by decide⟩ ?_
       refine And.intro (fun hq => ?_) (fun hq => And.intro (by unfold roomy; simp only [List.length_cons] at hm; omega) ?_)
       ·repeat' (first | refine run ⟨?_⟩ | refine pickD pj ?_ | fail)
        refine And.intro ⟨rfl, by decide⟩ ?_
        refine And.intro (fun h => absurd h (by simp)) (fun _ => And.intro (by show roomy 1 16; decide) ?_)
        refine run ⟨?_⟩
        rw [List.map_eq_nil_iff] at hq
        refine ⟨j + 1, ⟨by omega, hns2⟩, by omega, ?_, rfl⟩
        rw [htk, ← List.append_assoc, hq, i64w (by omega)] <;> rfl
       ·repeat' (first | refine run ⟨?_⟩ | refine And.intro (hgr _) ?_ | refine pickD pj ?_ | fail)
        refine And.intro ⟨rfl, by decide⟩ ?_
        refine And.intro ⟨rfl, rfl, by show roomy (_ + 1) 16; unfold roomy; simp only [List.length_cons] at hm; omega⟩ ?_
        refine run ⟨?_⟩
        refine And.intro (by rw [List.length_append] <;> rfl) ?_
        refine run ⟨?_⟩
        refine ⟨j + 1, ⟨by omega, hns2⟩, by omega, ?_, rfl⟩
        rw [htk, ← List.append_assoc, List.map_append (l₁ := r ++ _), i64w (by omega)] <;> rfl
     ·have g' : ¬ (j : Int) < ((l.map Fld.D).length : Int) := by rw [hlm2]; omega
      obtain rfl : j = l.length := by omega
      rw [List.take_of_length_le (by rw [List.length_map]; exact Nat.le_refl _)] at hns ⊢
      refine run ⟨?_⟩
      refine ⟨(seen ++ [y], r ++ l.map Fld.t), ⟨hnw hr hns, ?_⟩, ?_, ?_, rfl⟩
      ·simp only [List.length_append, List.length_cons, List.length_nil] at hm how ⊢; omega
      ·simp only [List.length_append, List.length_cons, List.length_nil] at hm how ⊢; omega
      ·dsimp only; rw [show (seen ++ [y]).length = seen.length + 1 by rw [List.length_append]; rfl] <;> rfl
    ·exact congrArg (fun q => ([(1, str s), (2, .ptr 0 0), (8, .row 1 (seen.length + 1)), (9, .d (.sl q)), (11, .d (fldsD l)), (14, i64 0)] : Env)) (by rw [List.take_zero, List.append_nil]; exact hdr)
end
end Go.Vm.Ite
namespace Go.Vm.Ite
open Go Go.Vm Go.Proofs Go.Vm.Ip
open Go.Vm.Lex (nameB)
set_option maxRecDepth 10000
theorem some_split (l : List Fld) (j : Nat) : someT l = someT (l.take j) ++ someT (l.drop j) := by
 have e1 : l = l.take j ++ l.drop j := (List.take_append_drop _ _).symm
 have e2 : someT (l.take j ++ l.drop j) = someT (l.take j) ++ someT (l.drop j) := by
  unfold someT; rw [List.map_append, List.filter_append]
 rw [← e2, ← e1]
section
variable {fx : Nat → Option Obj} {F : Nat → Option VFun}
set_option maxHeartbeats 4000000 in
theorem size14_s (x : Its) (hx : Fine x) (nd : Nmd x) (hsm : ∀ n, (flM x n).length ≤ 16) : ∀ (f : Nat) (s : S), deepOk x f s → s ≠ [] → ∀ H, evF (pgL fx F) n_ref14_size [.d x.D, str s] H = some (.tup [i64 (tgt (szF x f s)).1, i64 (tgt (szF x f s)).2], H)
 | 0, _, h, _, _ => h.elim
 | f + 1, s, hdeep, hs0, H => by
   have ih := fun (y : S) (hy : y ∈ (heldM x s).1) (h0 : y ≠ []) => size14_s x hx nd hsm f y (hdeep y hy) h0
   have ep := parts_ev (fx := fx) (F := F) x hx s
   have hl := hsm s
   have hlm : ((flM x s).map Fld.D).length = (flM x s).length := List.length_map ..
   unfold enB at ep
   rw [szF]
   cases cS : known (nS x) s with
   | true =>
    have ck : kn x s = true := by unfold kn; rw [cS]; rfl
    have cu := nd.nu ck
    have cu' : ¬ s = [40, 41] := cu.1
    have cu'' : ¬ s = [] := cu.2
    rw [cS, ck] at ep
    rw [nd.held_S cS] at ih ⊢
    simp only [Bool.false_eq_true, if_false, if_true]
    revert ih ep hl hlm
    generalize flM x s = l
    intro ih ep hl hlm
    refine evF_wq (t_ref14_size (F := F)) rfl rfl ?_ H
    repeat' (first | refine run ⟨?_⟩ | refine ca (ep _) ?_ | fail)
    refine wq_loop (α := Nat × Int × Int × Int) (fun a => l.length - a.1) (fun a => [(2, .ptr 0 0), (6, .d (fldsD l)), (7, boo false), (9, i64 a.2.1), (10, i64 a.2.2.1), (11, i64 a.2.2.2), (12, i64 a.1)]) (fun _ => [IB x]) (fun a => a.1 ≤ l.length ∧ a.2.1 = ((someT (l.take a.1)).foldl (fun a y => addS a (szF x f y)) (0, 1)).2 ∧ a.2.1 ≤ 1024 ∧ 0 ≤ a.2.2.1 ∧ a.2.2.1 ≤ 65 * a.1 ∧ min a.2.2.1 65 = ((someT (l.take a.1)).foldl (fun a y => addS a (szF x f y)) (0, 1)).1 ∧ 0 ≤ a.2.2.2 ∧ a.2.2.2 ≤ 65) ?_ (0, 1, 0, 0) ⟨Nat.zero_le _, rfl, by decide, by decide, by decide, rfl, by decide, by decide⟩ rfl rfl
    rintro ⟨j, n, w, mo⟩ ⟨hj, hn, hn1, hw0, hw1, hw2, hm0, hm1⟩
    dsimp only at hj hn hn1 hw0 hw1 hw2 hm0 hm1
    by_cases h : j < l.length
    ·have h' : (j : Int) < ((l.map Fld.D).length : Int) := by rw [hlm]; omega
     have pj := gFl h
     have hst := someT_succ h
     have hin : (l.getD j default).t ≠ [] → (l.getD j default).t ∈ someT l := fun hn => someT_mem.2 ⟨hn, l.getD j default, getD_mem h, rfl⟩
     have hsp := some_split l (j + 1)
     revert pj hst hin
     generalize l.getD j default = y
     obtain ⟨fn, t⟩ := y
     intro pj hst hin
     dsimp only at hst hin
     by_cases ct : t = []
     ·rw [ct] at hst; simp only [if_true] at hst
      repeat' (first | refine run ⟨?_⟩ | refine pickD pj ?_ | fail)
      exact ⟨(j + 1, n, w, mo), ⟨by show j + 1 ≤ _; omega, by rw [hst]; exact hn, hn1, hw0, by show w ≤ 65 * ((j + 1 : Nat) : Int); omega, by rw [hst]; exact hw2, hm0, hm1⟩, by show _ - (j + 1) < _ - j; omega, by dsimp only; rw [i64w (by omega)] <;> rfl, rfl⟩
     ·rw [if_neg ct] at hst
      have ew := ih t (hin ct) ct
      have hb := szF_bound x f t
      have hfin := foldS2 (g := szF x f) (fun y => (szF_bound x f y).2.2.1) (someT (l.drop (j + 1))) ((someT (l.take (j + 1))).foldl (fun a y => addS a (szF x f y)) (0, 1)) (foldS2 (g := szF x f) (fun y => (szF_bound x f y).2.2.1) (someT (l.take (j + 1))) (0, 1) (by decide)).2
      rw [← List.foldl_append, ← hsp] at hfin
      have hA : (someT (l.take (j + 1))).foldl (fun a y => addS a (szF x f y)) (0, 1) = addS ((someT (l.take j)).foldl (fun a y => addS a (szF x f y)) (0, 1)) (szF x f t) := by rw [hst, List.foldl_append]; rfl
      rw [hA] at hfin
      have hge := (foldS2 (g := szF x f) (fun y => (szF_bound x f y).2.2.1) (someT (l.take j)) (0, 1) (by decide)).1
      rw [← hn] at hge
      replace hge : (1 : Int) ≤ n := hge
      revert ew hb hA hfin hn hw2
      generalize szF x f t = v
      generalize (someT (l.take j)).foldl (fun a y => addS a (szF x f y)) (0, 1) = A
      intro hn hw2 ew hb hfin hA
      have hA2 : (A.2 + v.2 ≤ 1025 ∧ (addS A v).2 = A.2 + v.2) ∨ (1025 ≤ A.2 + v.2 ∧ (addS A v).2 = 1025) := by simp only [addS]; omega
      obtain ⟨q, hq⟩ : ∃ q, q = (addS A v).2 := ⟨_, rfl⟩
      rw [← hq] at hfin hA2
      obtain ⟨Z, hZ⟩ : ∃ Z, Z = (List.foldl (fun a y => addS a (szF x f y)) (0, 1) (someT l)) := ⟨_, rfl⟩
      rw [← hZ] at hfin ⊢
      by_cases cb : n + (tgt v).1 ≤ 1024
      ·have cv : v.2 ≤ 1024 := by
        rcases Int.lt_or_le 1024 v.2 with q | q
        ·rw [tgt_big (by omega)] at cb; dsimp only at cb; omega
        ·exact q
       rw [tgt_le cv] at cb ew
       dsimp only at cb ew
       have w1 : IntKind.i64.wrap (n + v.2) = n + v.2 := i64w (by omega)
       have w2 : IntKind.i64.wrap (w + min v.1 65) = w + min v.1 65 := i64w (by omega)
       have cb' : ¬ (1024 < IntKind.i64.wrap (n + v.2)) := by rw [w1]; omega
       have fin : ∀ mo', mo' = max mo (min v.1 65) → ∃ a' : Nat × Int × Int × Int, (a'.1 ≤ l.length ∧ a'.2.1 = ((someT (l.take a'.1)).foldl (fun a y => addS a (szF x f y)) (0, 1)).2 ∧ a'.2.1 ≤ 1024 ∧ 0 ≤ a'.2.2.1 ∧ a'.2.2.1 ≤ 65 * a'.1 ∧ min a'.2.2.1 65 = ((someT (l.take a'.1)).foldl (fun a y => addS a (szF x f y)) (0, 1)).1 ∧ 0 ≤ a'.2.2.2 ∧ a'.2.2.2 ≤ 65) ∧ l.length - a'.1 < l.length - j ∧ a' = (j + 1, n + v.2, w + min v.1 65, mo') := fun mo' hmo => ⟨(j + 1, n + v.2, w + min v.1 65, mo'), ⟨by show j + 1 ≤ _; omega, by rw [hA]; show n + v.2 = (addS A v).2; rw [← hq]; omega, by show n + v.2 ≤ _; omega, by show 0 ≤ w + min v.1 65; omega, by show w + min v.1 65 ≤ 65 * ((j + 1 : Nat) : Int); omega, by rw [hA, hmo]; show min (w + min v.1 65) 65 = (addS A v).1; simp only [addS]; omega, by show 0 ≤ mo'; omega, by show mo' ≤ 65; omega⟩, by show _ - (j + 1) < _ - j; omega, rfl⟩
       by_cases cm : mo < min v.1 65
       ·obtain ⟨a', f1, f2, rfl⟩ := fin (min v.1 65) (by omega)
        repeat' (first | refine run ⟨?_⟩ | refine pickD pj ?_ | refine ca (ew _) ?_ | fail)
        exact ⟨_, f1, f2, by dsimp only; rw [w1, w2, i64w (by omega)] <;> rfl, rfl⟩
       ·obtain ⟨a', f1, f2, rfl⟩ := fin mo (by omega)
        repeat' (first | refine run ⟨?_⟩ | refine pickD pj ?_ | refine ca (ew _) ?_ | fail)
        exact ⟨_, f1, f2, by dsimp only; rw [w1, w2, i64w (by omega)] <;> rfl, rfl⟩
      ·have cf : 1025 ≤ Z.2 := by
        rcases Int.lt_or_le 1024 v.2 with q | q
        ·omega
        ·rw [tgt_le q] at cb; dsimp only at cb; omega
       rw [tgt_big cf]
       have ct1 : 0 ≤ (tgt v).1 ∧ (tgt v).1 ≤ 1025 := by
        rcases Int.lt_or_le 1024 v.2 with q | q
        ·rw [tgt_big (by omega)]; exact ⟨by decide, by decide⟩
        ·rw [tgt_le q]; dsimp only; omega
       revert ew cb ct1
       generalize tgt v = u
       intro ew cb ct1
       have cb' : 1024 < IntKind.i64.wrap (n + u.1) := by rw [i64w (by omega)]; omega
       repeat' (first | refine run ⟨?_⟩ | refine pickD pj ?_ | refine ca (ew _) ?_ | fail)
       exact rfl
    ·have h' : ¬ (j : Int) < ((l.map Fld.D).length : Int) := by rw [hlm]; omega
     obtain rfl : j = l.length := by omega
     rw [List.take_length] at hn hw2
     revert hn hw2
     generalize (someT l).foldl (fun a y => addS a (szF x f y)) (0, 1) = A
     intro hn hw2
     rw [tgt_le (by omega)]
     by_cases cw : 64 < w
     ·have e1 : min A.1 65 = 65 := by omega
      rw [e1, ← hn]
      refine run ⟨?_⟩
      exact rfl
     ·have e1 : min A.1 65 = w := by omega
      rw [e1, ← hn]
      refine run ⟨?_⟩
      exact rfl
   | false =>
   cases cE : known (nE x) s with
   | true =>
    have ck : kn x s = true := by unfold kn; rw [cE, Bool.or_true]
    have cu := nd.nu ck
    have cu' : ¬ s = [40, 41] := cu.1
    have cu'' : ¬ s = [] := cu.2
    rw [cS, cE, ck] at ep
    rw [held_E cS cE] at ih ⊢
    simp only [if_true]
    revert ih ep hl hlm
    generalize flM x s = l
    intro ih ep hl hlm
    refine evF_wq (t_ref14_size (F := F)) rfl rfl ?_ H
    repeat' (first | refine run ⟨?_⟩ | refine ca (ep _) ?_ | fail)
    refine wq_loop (α := Nat × Int × Int × Int) (fun a => l.length - a.1) (fun a => [(2, .ptr 0 0), (6, .d (fldsD l)), (7, boo true), (9, i64 a.2.1), (10, i64 a.2.2.1), (11, i64 a.2.2.2), (12, i64 a.1)]) (fun _ => [IB x]) (fun a => a.1 ≤ l.length ∧ a.2.1 = ((someT (l.take a.1)).foldl (fun a y => addE a (szF x f y)) (1, 1)).2 ∧ a.2.1 ≤ 1024 ∧ 0 ≤ a.2.2.1 ∧ a.2.2.1 ≤ 65 * a.1 ∧ min (1 + a.2.2.2) 65 = min ((someT (l.take a.1)).foldl (fun a y => addE a (szF x f y)) (1, 1)).1 65 ∧ 0 ≤ a.2.2.2 ∧ a.2.2.2 ≤ 65) ?_ (0, 1, 0, 0) ⟨Nat.zero_le _, rfl, by decide, by decide, by decide, rfl, by decide, by decide⟩ rfl rfl
    rintro ⟨j, n, w, mo⟩ ⟨hj, hn, hn1, hw0, hw1, hw2, hm0, hm1⟩
    dsimp only at hj hn hn1 hw0 hw1 hw2 hm0 hm1
    by_cases h : j < l.length
    ·have h' : (j : Int) < ((l.map Fld.D).length : Int) := by rw [hlm]; omega
     have pj := gFl h
     have hst := someT_succ h
     have hin : (l.getD j default).t ≠ [] → (l.getD j default).t ∈ someT l := fun hn => someT_mem.2 ⟨hn, l.getD j default, getD_mem h, rfl⟩
     have hsp := some_split l (j + 1)
     revert pj hst hin
     generalize l.getD j default = y
     obtain ⟨fn, t⟩ := y
     intro pj hst hin
     dsimp only at hst hin
     by_cases ct : t = []
     ·rw [ct] at hst; simp only [if_true] at hst
      repeat' (first | refine run ⟨?_⟩ | refine pickD pj ?_ | fail)
      exact ⟨(j + 1, n, w, mo), ⟨by show j + 1 ≤ _; omega, by rw [hst]; exact hn, hn1, hw0, by show w ≤ 65 * ((j + 1 : Nat) : Int); omega, by rw [hst]; exact hw2, hm0, hm1⟩, by show _ - (j + 1) < _ - j; omega, by dsimp only; rw [i64w (by omega)] <;> rfl, rfl⟩
     ·rw [if_neg ct] at hst
      have ew := ih t (hin ct) ct
      have hb := szF_bound x f t
      have hfin := foldE2 (g := szF x f) (fun y => (szF_bound x f y).2.2.1) (someT (l.drop (j + 1))) ((someT (l.take (j + 1))).foldl (fun a y => addE a (szF x f y)) (1, 1)) (foldE2 (g := szF x f) (fun y => (szF_bound x f y).2.2.1) (someT (l.take (j + 1))) (1, 1) (by decide)).2
      rw [← List.foldl_append, ← hsp] at hfin
      have hA : (someT (l.take (j + 1))).foldl (fun a y => addE a (szF x f y)) (1, 1) = addE ((someT (l.take j)).foldl (fun a y => addE a (szF x f y)) (1, 1)) (szF x f t) := by rw [hst, List.foldl_append]; rfl
      rw [hA] at hfin
      have hge := (foldE2 (g := szF x f) (fun y => (szF_bound x f y).2.2.1) (someT (l.take j)) (1, 1) (by decide)).1
      rw [← hn] at hge
      replace hge : (1 : Int) ≤ n := hge
      revert ew hb hA hfin hn hw2
      generalize szF x f t = v
      generalize (someT (l.take j)).foldl (fun a y => addE a (szF x f y)) (1, 1) = A
      intro hn hw2 ew hb hfin hA
      have hA2 : (A.2 + v.2 ≤ 1025 ∧ (addE A v).2 = A.2 + v.2) ∨ (1025 ≤ A.2 + v.2 ∧ (addE A v).2 = 1025) := by simp only [addE]; omega
      obtain ⟨q, hq⟩ : ∃ q, q = (addE A v).2 := ⟨_, rfl⟩
      rw [← hq] at hfin hA2
      obtain ⟨Z, hZ⟩ : ∃ Z, Z = (List.foldl (fun a y => addE a (szF x f y)) (1, 1) (someT l)) := ⟨_, rfl⟩
      rw [← hZ] at hfin ⊢
      by_cases cb : n + (tgt v).1 ≤ 1024
      ·have cv : v.2 ≤ 1024 := by
        rcases Int.lt_or_le 1024 v.2 with q | q
        ·rw [tgt_big (by omega)] at cb; dsimp only at cb; omega
        ·exact q
       rw [tgt_le cv] at cb ew
       dsimp only at cb ew
       have w1 : IntKind.i64.wrap (n + v.2) = n + v.2 := i64w (by omega)
       have w2 : IntKind.i64.wrap (w + min v.1 65) = w + min v.1 65 := i64w (by omega)
       have cb' : ¬ (1024 < IntKind.i64.wrap (n + v.2)) := by rw [w1]; omega
       have fin : ∀ mo', mo' = max mo (min v.1 65) → ∃ a' : Nat × Int × Int × Int, (a'.1 ≤ l.length ∧ a'.2.1 = ((someT (l.take a'.1)).foldl (fun a y => addE a (szF x f y)) (1, 1)).2 ∧ a'.2.1 ≤ 1024 ∧ 0 ≤ a'.2.2.1 ∧ a'.2.2.1 ≤ 65 * a'.1 ∧ min (1 + a'.2.2.2) 65 = min ((someT (l.take a'.1)).foldl (fun a y => addE a (szF x f y)) (1, 1)).1 65 ∧ 0 ≤ a'.2.2.2 ∧ a'.2.2.2 ≤ 65) ∧ l.length - a'.1 < l.length - j ∧ a' = (j + 1, n + v.2, w + min v.1 65, mo') := fun mo' hmo => ⟨(j + 1, n + v.2, w + min v.1 65, mo'), ⟨by show j + 1 ≤ _; omega, by rw [hA]; show n + v.2 = (addE A v).2; rw [← hq]; omega, by show n + v.2 ≤ _; omega, by show 0 ≤ w + min v.1 65; omega, by show w + min v.1 65 ≤ 65 * ((j + 1 : Nat) : Int); omega, by rw [hA, hmo]; show min (1 + max mo (min v.1 65)) 65 = min (addE A v).1 65; simp only [addE]; omega, by show 0 ≤ mo'; omega, by show mo' ≤ 65; omega⟩, by show _ - (j + 1) < _ - j; omega, rfl⟩
       by_cases cm : mo < min v.1 65
       ·obtain ⟨a', f1, f2, rfl⟩ := fin (min v.1 65) (by omega)
        repeat' (first | refine run ⟨?_⟩ | refine pickD pj ?_ | refine ca (ew _) ?_ | fail)
        exact ⟨_, f1, f2, by dsimp only; rw [w1, w2, i64w (by omega)] <;> rfl, rfl⟩
       ·obtain ⟨a', f1, f2, rfl⟩ := fin mo (by omega)
        repeat' (first | refine run ⟨?_⟩ | refine pickD pj ?_ | refine ca (ew _) ?_ | fail)
        exact ⟨_, f1, f2, by dsimp only; rw [w1, w2, i64w (by omega)] <;> rfl, rfl⟩
      ·have cf : 1025 ≤ Z.2 := by
        rcases Int.lt_or_le 1024 v.2 with q | q
        ·omega
        ·rw [tgt_le q] at cb; dsimp only at cb; omega
       rw [tgt_big cf]
       have ct1 : 0 ≤ (tgt v).1 ∧ (tgt v).1 ≤ 1025 := by
        rcases Int.lt_or_le 1024 v.2 with q | q
        ·rw [tgt_big (by omega)]; exact ⟨by decide, by decide⟩
        ·rw [tgt_le q]; dsimp only; omega
       revert ew cb ct1
       generalize tgt v = u
       intro ew cb ct1
       have cb' : 1024 < IntKind.i64.wrap (n + u.1) := by rw [i64w (by omega)]; omega
       repeat' (first | refine run ⟨?_⟩ | refine pickD pj ?_ | refine ca (ew _) ?_ | fail)
       exact rfl
    ·have h' : ¬ (j : Int) < ((l.map Fld.D).length : Int) := by rw [hlm]; omega
     obtain rfl : j = l.length := by omega
     rw [List.take_length] at hn hw2
     revert hn hw2
     generalize (someT l).foldl (fun a y => addE a (szF x f y)) (1, 1) = A
     intro hn hw2
     rw [tgt_le (by omega)]
     have w3 : IntKind.i64.wrap (1 + mo) = 1 + mo := i64w (by omega)
     by_cases cw : 64 < 1 + mo
     ·have cw' : 64 < IntKind.i64.wrap (1 + mo) := by rw [w3]; omega
      have e1 : min A.1 65 = 65 := by omega
      rw [e1, ← hn]
      refine run ⟨?_⟩
      exact rfl
     ·have cw' : ¬ 64 < IntKind.i64.wrap (1 + mo) := by rw [w3]; omega
      have e1 : min A.1 65 = 1 + mo := by omega
      rw [e1, ← hn]
      refine run ⟨?_⟩
      rw [w3]; exact rfl
   | false =>
    have ck : kn x s = false := by unfold kn; rw [cS, cE]; rfl
    rw [cS, cE, ck] at ep
    rw [held_N cS cE]
    simp only [Bool.false_eq_true, if_false]
    refine evF_wq (t_ref14_size (F := F)) rfl rfl ?_ H
    generalize flM x s = l at ep
    by_cases cu : s = unitT
    ·have cu' : s = [40, 41] := cu
     rw [if_pos cu]
     repeat' (first | refine run ⟨?_⟩ | refine ca (ep _) ?_ | fail)
     exact rfl
    ·have cu' : ¬ s = [40, 41] := cu
     rw [if_neg cu]
     repeat' (first | refine run ⟨?_⟩ | refine ca (ep _) ?_ | fail)
     exact rfl
end
end Go.Vm.Ite
namespace Go.Vm.Ite
open Go Go.Vm Go.Proofs Go.Vm.Ip
open Go.Vm.Lex (nameB)
set_option maxRecDepth 10000
section
variable {fx : Nat → Option Obj} {F : Nat → Option VFun}
theorem name_lenV {x : Its} (hx : Fine x) {s : S} (h : s ∈ nS x ++ nE x) : s.length ≤ mx := by
 rcases List.mem_append.1 h with h | h
 ·obtain ⟨y, hy, rfl⟩ := List.mem_map.1 h; exact (hx.sf y hy).1
 ·obtain ⟨y, hy, rfl⟩ := List.mem_map.1 h; exact (hx.ef y hy).1
set_option maxHeartbeats 4000000 in
theorem right14_ev (x : Its) (hx : Fine x) (H : Hp) : evF (pgL fx F) n_ref14_Right [.d x.D] H = some (boo (r14B x), H) := by
 have m1 : (x.ss.map Nam.D).length = x.ss.length := List.length_map ..
 have m2 : (x.es.map Nam.D).length = x.es.length := List.length_map ..
 have ef := fun14_ev (fx := fx) (F := F) x hx
 unfold r14B
 by_cases c1 : x.ss.length ≤ 64
 rotate_left
 ·have c1' : (64 : Int) < ((x.ss.map Nam.D).length : Int) := by rw [m1]; omega
  rw [decide_eq_false c1]
  refine evF_wq (t_ref14_Right (F := F)) rfl rfl ?_ H
  refine run ⟨?_⟩
  exact rfl
 have c1' : ¬ (64 : Int) < ((x.ss.map Nam.D).length : Int) := by rw [m1]; omega
 rw [decide_eq_true c1]
 by_cases c2 : x.es.length ≤ 64
 rotate_left
 ·have c2' : (64 : Int) < ((x.es.map Nam.D).length : Int) := by rw [m2]; omega
  rw [decide_eq_false c2]
  refine evF_wq (t_ref14_Right (F := F)) rfl rfl ?_ H
  refine run ⟨?_⟩
  exact rfl
 have c2' : ¬ (64 : Int) < ((x.es.map Nam.D).length : Int) := by rw [m2]; omega
 rw [decide_eq_true c2]
 cases c3 : fun14 x with
 | false =>
  rw [c3] at ef
  refine evF_wq (t_ref14_Right (F := F)) rfl rfl ?_ H
  repeat' (first | refine run ⟨?_⟩ | refine ca (ef _) ?_ | fail)
  exact rfl
 | true =>
 rw [c3] at ef
 have ea := all14_ev (fx := fx) (F := F) x c1 c2
 have hl : (nS x ++ nE x).length ≤ 128 := by unfold nS nE; rw [List.length_append, List.length_map, List.length_map]; omega
 have ep := parts_ev (fx := fx) (F := F) x hx
 have het := fun (s : S) (hs : s.length ≤ mx) => typed_ev (fx := fx) (F := F) x hx s hs
 have hnl := fun s (hs : s ∈ nS x ++ nE x) => name_lenV hx hs
 have hff := fl_fine hx
 have hNM : nms14 x [] (nS x ++ nE x) = true → Nmd x ∧ ∀ n, (flM x n).length ≤ 16 := nmd_of
 have hE14 := fun (hnm : Nmd x ∧ ∀ n, (flM x n).length ≤ 16) (s : S) (hk : s ∈ nS x ++ nE x) => endless14_ev (fx := fx) (F := F) x hx hnm.1.nm hnm.2 hl s (kn_mem.2 hk)
 have hS14 := fun (hnm : Nmd x ∧ ∀ n, (flM x n).length ≤ 16) (hd : (nS x ++ nE x).all (fun s => !end14 x s) = true) (s : S) (hk : s ∈ nS x ++ nE x) => size14_s (fx := fx) (F := F) x hx hnm.1 hnm.2 (deepN x) s (deep14 hd s) (hnm.1.nu (kn_mem.2 hk)).2
 refine evF_wq (t_ref14_Right (F := F)) rfl rfl ?_ H
 rw [Bool.true_and, Bool.true_and, Bool.true_and]
 revert ea hl hnl hNM hE14 hS14
 generalize nS x ++ nE x = L
 intro ea hl hnl hNM hE14 hS14
 have hLm : (L.map D.str).length = L.length := List.length_map ..
 repeat' (first | refine run ⟨?_⟩ | refine ca (ef _) ?_ | refine ca (ea _) ?_ | fail)
 refine wq_loop (α := Nat) (fun a => L.length - a) (fun a => [(1, .ptr 0 0), (3, .d (.sl (L.map D.str))), (4, i64 a)]) (fun _ => [IB x]) (fun a => a ≤ L.length ∧ nms14 x [] L = nms14 x (L.take a) (L.drop a)) ?_ 0 ⟨Nat.zero_le _, rfl⟩ rfl rfl
 rintro i ⟨hi, hinv⟩
 by_cases h : i < L.length
 ·have h' : (i : Int) < ((L.map D.str).length : Int) := by rw [hLm]; omega
  have pi := gS2 h
  have ht := take_succ_getD (d := []) h
  have hd := drop_getD (d := []) h
  have hm : L.getD i [] ∈ L := by simp [List.getD_eq_getElem?_getD, List.getElem?_eq_getElem h]
  have hs1 := hnl _ hm
  have eh := has_ev (fx := fx) (F := F) (L.take i) (Nat.le_trans (List.length_take_le _ _) (Nat.le_trans (Nat.le_trans (Nat.le_of_lt h) (Nat.le_refl _)) (Nat.le_trans hl (by decide)))) (L.getD i [])
  rw [List.map_take] at eh
  have eh : ∀ H, evF (pgL fx F) n_ref14_has [.d (.sl (List.drop 0 (List.take ((i : Int).toNat) (L.map D.str)))), str (L.getD i [])] H = some (boo (decide (L.getD i [] ∈ L.take i)), H) := eh
  have hn : (0 : Int) ≤ (i : Int) := by omega
  have hb : (i : Int).toNat ≤ (L.map D.str).length := by rw [hLm]; omega
  rw [hd] at hinv
  simp only [nms14] at hinv
  revert pi ht hm hs1 eh hinv
  generalize L.getD i [] = s
  intro hinv pi ht hm hs1 eh
  have en := rname_ev (fx := fx) (F := F) (s := s) (hs := Nat.le_trans hs1 (by decide))
  have eps := ep s
  have e65 := fields14_ev (fx := fx) (F := F) (flM x s) (hff s).1 (fun f hf => ((hff s).2 f hf).1) 16
  have hft := (hff s).2
  have hlm : ((flM x s).map Fld.D).length = (flM x s).length := List.length_map ..
  have hl2 := (hff s).1
  have hl2' : (flM x s).length ≤ 4398046511104 := hl2
  revert eps e65 hft hlm hl2 hl2' hinv
  generalize flM x s = l
  generalize enB x s = enu
  generalize kn x s = ok
  intro hinv eps e65 hft hlm hl2 hl2'
  cases k1 : nameB s with
  | false =>
   rw [k1] at en hinv
   rw [hinv]
   repeat' (first | refine run ⟨?_⟩ | refine pickD pi ?_ | refine ca (en _) ?_ | fail)
   exact rfl
  | true =>
  rw [k1] at en hinv
  by_cases k2 : s ∈ L.take i
  ·rw [decide_eq_true k2] at eh hinv
   rw [hinv]
   repeat' (first | refine run ⟨?_⟩ | refine pickD pi ?_ | refine ca (en _) ?_ | refine And.intro hn ?_ | refine And.intro ⟨Nat.zero_le _, hb, rfl⟩ ?_ | refine ca (eh _) ?_ | fail)
   exact rfl
  rw [decide_eq_false k2] at eh hinv
  cases k3 : fld14 l 16 with
  | false =>
   rw [k3] at e65 hinv
   rw [hinv]
   repeat' (first | refine run ⟨?_⟩ | refine pickD pi ?_ | refine ca (en _) ?_ | refine And.intro hn ?_ | refine And.intro ⟨Nat.zero_le _, hb, rfl⟩ ?_ | refine ca (eh _) ?_ | refine ca (eps _) ?_ | refine ca (e65 _) ?_ | fail)
   exact rfl
  | true =>
  rw [k3] at e65 hinv
  repeat' (first | refine run ⟨?_⟩ | refine pickD pi ?_ | refine ca (en _) ?_ | refine And.intro hn ?_ | refine And.intro ⟨Nat.zero_le _, hb, rfl⟩ ?_ | refine ca (eh _) ?_ | refine ca (eps _) ?_ | refine ca (e65 _) ?_ | fail)
  refine wq_loop (α := Nat) (fun a => l.length - a) (fun a => [(1, .ptr 0 0), (3, .d (.sl (L.map D.str))), (4, i64 i), (5, .d (fldsD l)), (6, boo enu), (8, i64 a)]) (fun _ => [IB x]) (fun a => a ≤ l.length ∧ ∀ f ∈ l.take a, fty14 x enu f = true) ?_ 0 ⟨Nat.zero_le _, by simp⟩ rfl rfl
  rintro j ⟨hj, hq⟩
  by_cases u : j < l.length
  ·have u' : (j : Int) < ((l.map Fld.D).length : Int) := by rw [hlm]; omega
   have pj := gFl u
   have e1 := het _ (hft _ (getD_mem u)).2
   have ht3 := take_succ_getD (d := default) u
   have hmem := getD_mem u
   have hno : fty14 x enu (l.getD j default) = false → nms14 x [] L = false := fun c => by
     rw [hinv, show l.all (fty14 x enu) = false by rw [List.all_eq_false]; exact ⟨_, hmem, by rw [c]; decide⟩]; rfl
   have hys : fty14 x enu (l.getD j default) = true → ∀ f ∈ l.take (j + 1), fty14 x enu f = true := fun c p hp => by
     rw [ht3, List.mem_append, List.mem_singleton] at hp
     rcases hp with a | a
     ·exact hq p a
     ·rw [a]; exact c
   revert pj e1 hno hys
   clear ht3 hmem
   generalize l.getD j default = p
   obtain ⟨pn, pt⟩ := p
   unfold fty14
   dsimp only
   intro pj e1 hno hys
   cases k4 : bareB (kn x) pt with
   | true =>
    rw [k4] at e1 hys
    have hq2 := hys rfl
    repeat' (first | refine run ⟨?_⟩ | refine pickD pj ?_ | refine ca (e1 _) ?_ | fail)
    exact ⟨j + 1, ⟨by omega, hq2⟩, by omega, by rw [i64w (by omega)] <;> rfl, rfl⟩
   | false =>
    rw [k4] at e1 hno hys
    cases enu with
    | false =>
     rw [hno rfl]
     repeat' (first | refine run ⟨?_⟩ | refine pickD pj ?_ | refine ca (e1 _) ?_ | fail)
     exact rfl
    | true =>
     by_cases k5 : pt = []
     ·have hq2 := hys (by rw [decide_eq_true k5]; rfl)
      have k5' : (!decide (pt = [])) = false := by rw [k5]; rfl
      repeat' (first | refine run ⟨?_⟩ | refine pickD pj ?_ | refine ca (e1 _) ?_ | fail)
      exact ⟨j + 1, ⟨by omega, hq2⟩, by omega, by rw [i64w (by omega)] <;> rfl, rfl⟩
     ·rw [hno (by rw [decide_eq_false k5]; rfl)]
      have k5' : (!decide (pt = [])) = true := by rw [decide_eq_false k5]; rfl
      repeat' (first | refine run ⟨?_⟩ | refine pickD pj ?_ | refine ca (e1 _) ?_ | fail)
      exact rfl
  ·have u' : ¬ (j : Int) < ((l.map Fld.D).length : Int) := by rw [hlm]; omega
   obtain rfl : j = l.length := by omega
   rw [List.take_length] at hq
   rw [show l.all (fty14 x enu) = true from List.all_eq_true.2 hq] at hinv
   refine run ⟨?_⟩
   exact ⟨i + 1, ⟨by omega, by rw [hinv, ht]; rfl⟩, by omega, by rw [i64w (by omega)] <;> rfl, rfl⟩
 ·have h' : ¬ (i : Int) < ((L.map D.str).length : Int) := by rw [hLm]; omega
  obtain rfl : i = L.length := by omega
  rw [List.drop_length, show nms14 x (L.take L.length) [] = true from rfl] at hinv
  rw [hinv, Bool.true_and]
  have hnm := hNM hinv
  have hE14 := hE14 hnm
  have hS14 := hS14 hnm
  refine run ⟨?_⟩
  refine wq_loop (α := Nat) (fun a => L.length - a) (fun a => [(1, .ptr 0 0), (3, .d (.sl (L.map D.str))), (9, i64 a)]) (fun _ => [IB x]) (fun a => a ≤ L.length ∧ ∀ s ∈ L.take a, end14 x s = false) ?_ 0 ⟨Nat.zero_le _, by simp⟩ rfl rfl
  rintro i ⟨hi, hends⟩
  by_cases h : i < L.length
  ·have h' : (i : Int) < ((L.map D.str).length : Int) := by rw [hLm]; omega
   have pi := gS2 h
   have ht := take_succ_getD (d := []) h
   have hm : L.getD i [] ∈ L := by simp [List.getD_eq_getElem?_getD, List.getElem?_eq_getElem h]
   have ee := hE14 _ hm
   revert pi ht hm ee
   generalize L.getD i [] = s
   intro pi ht hm ee
   cases c : end14 x s with
   | true =>
    rw [c] at ee
    have hv : (L.all fun s => !end14 x s) = false := by rw [List.all_eq_false]; exact ⟨s, hm, by rw [c]; decide⟩
    rw [hv]
    repeat' (first | refine run ⟨?_⟩ | refine pickD pi ?_ | refine ca (ee _) ?_ | fail)
    exact rfl
   | false =>
    rw [c] at ee
    have hs2 : ∀ s ∈ L.take (i + 1), end14 x s = false := fun t ht2 => by
      rw [ht, List.mem_append, List.mem_singleton] at ht2
      rcases ht2 with a | a
      ·exact hends t a
      ·rw [a]; exact c
    repeat' (first | refine run ⟨?_⟩ | refine pickD pi ?_ | refine ca (ee _) ?_ | fail)
    exact ⟨i + 1, ⟨by omega, hs2⟩, by omega, by rw [i64w (by omega)] <;> rfl, rfl⟩
  ·have h' : ¬ (i : Int) < ((L.map D.str).length : Int) := by rw [hLm]; omega
   obtain rfl : i = L.length := by omega
   rw [List.take_length] at hends
   have hv : (L.all fun s => !end14 x s) = true := List.all_eq_true.2 fun s hs => by rw [hends s hs]; rfl
   rw [hv, Bool.true_and]
   have hS14 := hS14 hv
   refine run ⟨?_⟩
   refine wq_loop (α := Nat) (fun a => L.length - a) (fun a => [(1, .ptr 0 0), (3, .d (.sl (L.map D.str))), (10, i64 a)]) (fun _ => [IB x]) (fun a => a ≤ L.length ∧ ∀ s ∈ L.take a, big14 (tgt (szF x (deepN x) s)) = false) ?_ 0 ⟨Nat.zero_le _, by simp⟩ rfl rfl
   rintro i ⟨hi, hbs⟩
   by_cases h : i < L.length
   ·have h' : (i : Int) < ((L.map D.str).length : Int) := by rw [hLm]; omega
    have pi := gS2 h
    have ht := take_succ_getD (d := []) h
    have hm : L.getD i [] ∈ L := by simp [List.getD_eq_getElem?_getD, List.getElem?_eq_getElem h]
    have ee := hS14 _ hm
    revert pi ht hm ee
    generalize L.getD i [] = s
    intro pi ht hm ee
    have hbig : big14 (tgt (szF x (deepN x) s)) = true → (L.all fun s => !big14 (tgt (szF x (deepN x) s))) = false := fun c => by rw [List.all_eq_false]; exact ⟨s, hm, by rw [c]; decide⟩
    have hsml : big14 (tgt (szF x (deepN x) s)) = false → ∀ s ∈ L.take (i + 1), big14 (tgt (szF x (deepN x) s)) = false := fun c t ht2 => by
      rw [ht, List.mem_append, List.mem_singleton] at ht2
      rcases ht2 with a | a
      ·exact hbs t a
      ·rw [a]; exact c
    revert ee hbig hsml
    generalize tgt (szF x (deepN x) s) = v
    intro ee hbig hsml
    by_cases c4 : 1024 < v.1
    ·rw [hbig (by unfold big14; rw [decide_eq_true c4]; rfl)]
     repeat' (first | refine run ⟨?_⟩ | refine pickD pi ?_ | refine ca (ee _) ?_ | fail)
     exact rfl
    by_cases c5 : 64 < v.2
    ·rw [hbig (by unfold big14; rw [decide_eq_true c5, Bool.or_true])]
     repeat' (first | refine run ⟨?_⟩ | refine pickD pi ?_ | refine ca (ee _) ?_ | fail)
     exact rfl
    have hs2 := hsml (by unfold big14; rw [decide_eq_false c4, decide_eq_false c5]; rfl)
    repeat' (first | refine run ⟨?_⟩ | refine pickD pi ?_ | refine ca (ee _) ?_ | fail)
    exact ⟨i + 1, ⟨by omega, hs2⟩, by omega, by rw [i64w (by omega)] <;> rfl, rfl⟩
   ·have h' : ¬ (i : Int) < ((L.map D.str).length : Int) := by rw [hLm]; omega
    obtain rfl : i = L.length := by omega
    rw [List.take_length] at hbs
    have hv : (L.all fun s => !big14 (tgt (szF x (deepN x) s))) = true := List.all_eq_true.2 fun s hs => by rw [hbs s hs]; rfl
    rw [hv]
    refine run ⟨?_⟩
    exact rfl
end
end Go.Vm.Ite
namespace Go.Vm.Ip
def zipB {α : Type} (e : α → α → Bool) : List α → List α → Bool
 | [], [] => true
 | a :: l, b :: m => e a b && zipB e l m
 | _, _ => false
theorem zipB_refl {α : Type} {e : α → α → Bool} (h : ∀ a, e a a = true) : ∀ l, zipB e l l = true
 | [] => rfl
 | a :: l => by rw [zipB, h, zipB_refl h l]; rfl
theorem zipB_len {α : Type} {e : α → α → Bool} : ∀ {l m : List α}, l.length ≠ m.length → zipB e l m = false
 | [], [], h => absurd rfl h
 | [], _ :: _, _ => rfl
 | _ :: _, [], _ => rfl
 | a :: l, b :: m, h => by
   rw [zipB, zipB_len (l := l) (m := m) (fun q => h (by simp [q])), Bool.and_false]
theorem zipB_step {α : Type} [Inhabited α] {e : α → α → Bool} {l m : List α} {i : Nat} (hl : i < l.length) (hm : i < m.length) : zipB e (l.drop i) (m.drop i) = (e (l.getD i default) (m.getD i default) && zipB e (l.drop (i + 1)) (m.drop (i + 1))) := by
 rw [drop_getD (d := default) hl, drop_getD (d := default) hm, zipB]
theorem zipB_end {α : Type} {e : α → α → Bool} {l m : List α} (h : l.length = m.length) : zipB e (l.drop l.length) (m.drop l.length) = true := by
 rw [List.drop_length, h, List.drop_length]; rfl
def eF (a b : Fld) : Bool := decide (a.n = b.n) && decide (a.t = b.t)
def eN (a b : Nam) : Bool := decide (a.n = b.n) && zipB eF a.fs b.fs
def eB (a b : Bool) : Bool := a == b
def eC (a b : Fnc) : Bool := decide (a.n = b.n) && (decide (a.r = b.r) && (decide (a.d = b.d) && (zipB eF a.ps b.ps && zipB eB a.ms b.ms)))
def sameB (a b : Its) : Bool := zipB eN a.ss b.ss && (zipB eN a.es b.es && zipB eC a.fs b.fs)
theorem eF_refl (a : Fld) : eF a a = true := by simp [eF]
theorem eN_refl (a : Nam) : eN a a = true := by simp [eN, zipB_refl eF_refl]
theorem eC_refl (a : Fnc) : eC a a = true := by simp [eC, zipB_refl eF_refl, zipB_refl (e := eB) (by simp [eB])]
theorem sameB_refl (a : Its) : sameB a a = true := by simp [sameB, zipB_refl eN_refl, zipB_refl eC_refl]
theorem eqL_fld (a b : Fld) : eqL [.str a.n, .str a.t] [.str b.n, .str b.t] = eF a b := by
 rw [Bool.eq_iff_iff]; simp [eqL, eF, eq1]
end Go.Vm.Ip
namespace Go.Vm.Ite
open Go.Vm.Ip
set_option maxRecDepth 10000
set_option linter.unusedVariables false
set_option linter.unusedSimpArgs false
abbrev namsD (l : List Nam) : D := .sl (l.map Nam.D)
abbrev fncsD (l : List Fnc) : D := .sl (l.map Fnc.D)
abbrev boosD (l : List Bool) : D := .sl (l.map D.bool)
theorem pF {l : List Fld} {i : Nat} (h : i < l.length) : 0 ≤ (i : Int) ∧ (l.map Fld.D)[(i : Int).toNat]? = some (l.getD i default).D := by
 refine ⟨by omega, ?_⟩
 rw [Int.toNat_natCast, List.getElem?_map, List.getElem?_eq_getElem h]
 simp [List.getD_eq_getElem?_getD, List.getElem?_eq_getElem h]
theorem pB {l : List Bool} {i : Nat} (h : i < l.length) : 0 ≤ (i : Int) ∧ (l.map D.bool)[(i : Int).toNat]? = some (.bool (l.getD i default)) := by
 refine ⟨by omega, ?_⟩
 rw [Int.toNat_natCast, List.getElem?_map, List.getElem?_eq_getElem h]
 simp [List.getD_eq_getElem?_getD, List.getElem?_eq_getElem h]
section
variable {fx : Nat → Option Obj} {F : Nat → Option VFun} (H : Hp)
set_option maxHeartbeats 4000000 in
theorem eqFld_ev (a b : List Fld) (ha : a.length ≤ 9223372036854775807) : evF (pgL fx F) n_slices_Equal_api_Field_api_Field [.d (fldsD a), .d (fldsD b)] H = some (boo (zipB eF a b), H) := by
 refine evF_wq (t_slices_Equal_api_Field_api_Field (F := F)) rfl rfl ?_ H
 have hna : (a.map Fld.D).length = a.length := List.length_map ..
 have hnb : (b.map Fld.D).length = b.length := List.length_map ..
 by_cases hl : a.length = b.length
 rotate_left
 ·have c0 : (!decide (((a.map Fld.D).length : Int) = ((b.map Fld.D).length : Int))) = true := by simp; omega
  rw [zipB_len hl]
  refine run ⟨?_⟩
  exact rfl
 ·have c0 : (!decide (((a.map Fld.D).length : Int) = ((b.map Fld.D).length : Int))) = false := by simp; omega
  refine run ⟨?_⟩
  refine wq_loop (α := Nat) (fun i => a.length - i) (fun i => [(0, .d (fldsD a)), (1, .d (fldsD b)), (12, i64 a.length), (13, i64 i)]) (fun _ => []) (fun i => i ≤ a.length ∧ zipB eF (a.drop i) (b.drop i) = zipB eF a b) ?_ 0 ⟨Nat.zero_le _, rfl⟩ (by show [_, _, (12, i64 ((a.map Fld.D).length : Int)), _] = _; rw [hna]; rfl) rfl
  rintro i ⟨hi, ht⟩
  by_cases hlt : i < a.length
  ·have hlb : i < b.length := by omega
   have c1 : (i : Int) < (a.length : Int) := by omega
   have wi : IntKind.i64.wrap ((i : Int) + 1) = ((i + 1 : Nat) : Int) := by rw [i64w (by omega)]; omega
   rw [zipB_step hlt hlb] at ht
   have ga := pF hlt
   have gb := pF hlb
   revert ga gb ht
   generalize a.getD i default = x
   generalize b.getD i default = y
   intro ht ga gb
   cases hs : eF x y with
   | true =>
    rw [hs, Bool.true_and] at ht
    have c2 : (!eqL (D.cells x.D) (D.cells y.D)) = false := by rw [show eqL (D.cells x.D) (D.cells y.D) = eF x y from eqL_fld x y, hs]; rfl
    repeat' (first | refine run ⟨?_⟩ | refine pickD ga ?_ | refine pickD gb ?_ | fail)
    exact ⟨i + 1, ⟨by omega, ht⟩, by omega, by rw [wi] <;> rfl, rfl⟩
   | false =>
    rw [hs, Bool.false_and] at ht
    rw [← ht]
    have c2 : (!eqL (D.cells x.D) (D.cells y.D)) = true := by rw [show eqL (D.cells x.D) (D.cells y.D) = eF x y from eqL_fld x y, hs]; rfl
    repeat' (first | refine run ⟨?_⟩ | refine pickD ga ?_ | refine pickD gb ?_ | fail)
    exact rfl
  ·obtain rfl : i = a.length := by omega
   have c1 : ¬ (a.length : Int) < (a.length : Int) := by omega
   rw [zipB_end hl] at ht
   rw [← ht]
   refine run ⟨?_⟩
   exact rfl
set_option maxHeartbeats 4000000 in
theorem eqBoo_ev (a b : List Bool) (ha : a.length ≤ 9223372036854775807) : evF (pgL fx F) n_slices_Equal_bool_bool [.d (boosD a), .d (boosD b)] H = some (boo (zipB eB a b), H) := by
 refine evF_wq (t_slices_Equal_bool_bool (F := F)) rfl rfl ?_ H
 have hna : (a.map D.bool).length = a.length := List.length_map ..
 have hnb : (b.map D.bool).length = b.length := List.length_map ..
 by_cases hl : a.length = b.length
 rotate_left
 ·have c0 : (!decide (((a.map D.bool).length : Int) = ((b.map D.bool).length : Int))) = true := by simp; omega
  rw [zipB_len hl]
  refine run ⟨?_⟩
  exact rfl
 ·have c0 : (!decide (((a.map D.bool).length : Int) = ((b.map D.bool).length : Int))) = false := by simp; omega
  refine run ⟨?_⟩
  refine wq_loop (α := Nat) (fun i => a.length - i) (fun i => [(0, .d (boosD a)), (1, .d (boosD b)), (12, i64 a.length), (13, i64 i)]) (fun _ => []) (fun i => i ≤ a.length ∧ zipB eB (a.drop i) (b.drop i) = zipB eB a b) ?_ 0 ⟨Nat.zero_le _, rfl⟩ (by show [_, _, (12, i64 ((a.map D.bool).length : Int)), _] = _; rw [hna] <;> rfl) rfl
  rintro i ⟨hi, ht⟩
  by_cases hlt : i < a.length
  ·have hlb : i < b.length := by omega
   have c1 : (i : Int) < (a.length : Int) := by omega
   have wi : IntKind.i64.wrap ((i : Int) + 1) = ((i + 1 : Nat) : Int) := by rw [i64w (by omega)]; omega
   rw [zipB_step hlt hlb] at ht
   have ga := pB hlt
   have gb := pB hlb
   revert ga gb ht
   generalize a.getD i default = x
   generalize b.getD i default = y
   intro ht ga gb
   cases hs : eB x y with
   | true =>
    rw [hs, Bool.true_and] at ht
    have c2 : (if true then !(x == y) else x == y) = false := by rw [show (x == y) = eB x y from rfl, hs]; rfl
    repeat' (first | refine run ⟨?_⟩ | refine pickD ga ?_ | refine pickD gb ?_ | fail)
    exact ⟨i + 1, ⟨by omega, ht⟩, by omega, by rw [wi] <;> rfl, rfl⟩
   | false =>
    rw [hs, Bool.false_and] at ht
    rw [← ht]
    have c2 : (if true then !(x == y) else x == y) = true := by rw [show (x == y) = eB x y from rfl, hs]; rfl
    repeat' (first | refine run ⟨?_⟩ | refine pickD ga ?_ | refine pickD gb ?_ | fail)
    exact rfl
  ·obtain rfl : i = a.length := by omega
   have c1 : ¬ (a.length : Int) < (a.length : Int) := by omega
   rw [zipB_end hl] at ht
   rw [← ht]
   refine run ⟨?_⟩
   exact rfl
theorem same1_ev (x y : Nam) (hx : x.fs.length ≤ 9223372036854775807) : evF (pgL fx F) n_items_Same_1 [.d x.D, .d y.D] H = some (boo (eN x y), H) := by
 refine evF_wq (t_items_Same_1 (F := F)) rfl rfl ?_ H
 have he := fun H => eqFld_ev (fx := fx) (F := F) H x.fs y.fs hx
 unfold eN
 by_cases c : x.n = y.n
 ·rw [decide_eq_true c, Bool.true_and]
  repeat' (first | refine run ⟨?_⟩ | refine ca (he _) ?_ | fail)
  exact rfl
 ·rw [decide_eq_false c, Bool.false_and]
  refine run ⟨?_⟩
  exact rfl
theorem same2_ev (x y : Nam) (hx : x.fs.length ≤ 9223372036854775807) : evF (pgL fx F) n_items_Same_2 [.d x.D, .d y.D] H = some (boo (eN x y), H) := by
 refine evF_wq (t_items_Same_2 (F := F)) rfl rfl ?_ H
 have he := fun H => eqFld_ev (fx := fx) (F := F) H x.fs y.fs hx
 unfold eN
 by_cases c : x.n = y.n
 ·rw [decide_eq_true c, Bool.true_and]
  repeat' (first | refine run ⟨?_⟩ | refine ca (he _) ?_ | fail)
  exact rfl
 ·rw [decide_eq_false c, Bool.false_and]
  refine run ⟨?_⟩
  exact rfl
theorem same3_ev (x y : Fnc) (hx : x.ps.length ≤ 9223372036854775807) (hm : x.ms.length ≤ 9223372036854775807) : evF (pgL fx F) n_items_Same_3 [.d x.D, .d y.D] H = some (boo (eC x y), H) := by
 refine evF_wq (t_items_Same_3 (F := F)) rfl rfl ?_ H
 have he := fun H => eqFld_ev (fx := fx) (F := F) H x.ps y.ps hx
 have hb := fun H => eqBoo_ev (fx := fx) (F := F) H x.ms y.ms hm
 unfold eC
 by_cases c1 : x.n = y.n
 rotate_left
 ·rw [decide_eq_false c1, Bool.false_and]
  refine run ⟨?_⟩
  exact rfl
 rw [decide_eq_true c1, Bool.true_and]
 by_cases c2 : x.r = y.r
 rotate_left
 ·rw [decide_eq_false c2, Bool.false_and]
  refine run ⟨?_⟩
  exact rfl
 rw [decide_eq_true c2, Bool.true_and]
 by_cases c3 : x.d = y.d
 rotate_left
 ·rw [decide_eq_false c3, Bool.false_and]
  refine run ⟨?_⟩
  exact rfl
 rw [decide_eq_true c3, Bool.true_and]
 cases c4 : zipB eF x.ps y.ps with
 | false =>
  rw [c4] at he
  repeat' (first | refine run ⟨?_⟩ | refine ca (he _) ?_ | fail)
  exact rfl
 | true =>
  rw [c4] at he
  repeat' (first | refine run ⟨?_⟩ | refine ca (he _) ?_ | refine ca (hb _) ?_ | fail)
  exact rfl
set_option maxHeartbeats 4000000 in
theorem eqfS_ev (a b : List Nam) (ha : a.length ≤ 9223372036854775807) (hk : ∀ x ∈ a, x.fs.length ≤ 9223372036854775807) : evF (pgL fx F) n_slices_EqualFunc_api_Struct_api_Struct_api_Struct_api_Struct [.d (namsD a), .d (namsD b), .fn 33 []] H = some (boo (zipB eN a b), H) := by
 refine evF_wq (t_slices_EqualFunc_api_Struct_api_Struct_api_Struct_api_Struct (F := F)) rfl rfl ?_ H
 have hna : (a.map Nam.D).length = a.length := List.length_map ..
 have hnb : (b.map Nam.D).length = b.length := List.length_map ..
 by_cases hl : a.length = b.length
 rotate_left
 ·have c0 : (!decide (((a.map Nam.D).length : Int) = ((b.map Nam.D).length : Int))) = true := by simp; omega
  rw [zipB_len hl]
  refine run ⟨?_⟩
  exact rfl
 ·have c0 : (!decide (((a.map Nam.D).length : Int) = ((b.map Nam.D).length : Int))) = false := by simp; omega
  refine run ⟨?_⟩
  refine wq_loop (α := Nat) (fun i => a.length - i) (fun i => [(1, .d (namsD b)), (2, .fn 33 []), (15, .d (namsD a)), (16, i64 a.length), (17, i64 i)]) (fun _ => []) (fun i => i ≤ a.length ∧ zipB eN (a.drop i) (b.drop i) = zipB eN a b) ?_ 0 ⟨Nat.zero_le _, rfl⟩ (by show [_, _, _, (16, i64 ((a.map Nam.D).length : Int)), _] = _; rw [hna]; rfl) rfl
  rintro i ⟨hi, ht⟩
  by_cases hlt : i < a.length
  ·have hlb : i < b.length := by omega
   have c1 : (i : Int) < (a.length : Int) := by omega
   have wi : IntKind.i64.wrap ((i : Int) + 1) = ((i + 1 : Nat) : Int) := by rw [i64w (by omega)]; omega
   rw [zipB_step hlt hlb] at ht
   have ga := gN hlt
   have gb := gN hlb
   have hm := hk (a.getD i default) (by rw [List.getD_eq_getElem?_getD, List.getElem?_eq_getElem hlt]; exact List.getElem_mem _)
   revert ga gb ht hm
   generalize a.getD i default = x
   generalize b.getD i default = y
   intro ht ga gb hm
   have hev := fun H => same1_ev (fx := fx) (F := F) H x y hm
   cases hs : eN x y with
   | true =>
    rw [hs, Bool.true_and] at ht
    rw [hs] at hev
    repeat' (first | refine run ⟨?_⟩ | refine pickD ga ?_ | refine pickD gb ?_ | refine ca (hev _) ?_ | fail)
    exact ⟨i + 1, ⟨by omega, ht⟩, by omega, by rw [wi] <;> rfl, rfl⟩
   | false =>
    rw [hs, Bool.false_and] at ht
    rw [← ht]
    rw [hs] at hev
    repeat' (first | refine run ⟨?_⟩ | refine pickD ga ?_ | refine pickD gb ?_ | refine ca (hev _) ?_ | fail)
    exact rfl
  ·obtain rfl : i = a.length := by omega
   have c1 : ¬ (a.length : Int) < (a.length : Int) := by omega
   rw [zipB_end hl] at ht
   rw [← ht]
   refine run ⟨?_⟩
   exact rfl
set_option maxHeartbeats 4000000 in
theorem eqfE_ev (a b : List Nam) (ha : a.length ≤ 9223372036854775807) (hk : ∀ x ∈ a, x.fs.length ≤ 9223372036854775807) : evF (pgL fx F) n_slices_EqualFunc_api_Enum_api_Enum_api_Enum_api_Enum [.d (namsD a), .d (namsD b), .fn 36 []] H = some (boo (zipB eN a b), H) := by
 refine evF_wq (t_slices_EqualFunc_api_Enum_api_Enum_api_Enum_api_Enum (F := F)) rfl rfl ?_ H
 have hna : (a.map Nam.D).length = a.length := List.length_map ..
 have hnb : (b.map Nam.D).length = b.length := List.length_map ..
 by_cases hl : a.length = b.length
 rotate_left
 ·have c0 : (!decide (((a.map Nam.D).length : Int) = ((b.map Nam.D).length : Int))) = true := by simp; omega
  rw [zipB_len hl]
  refine run ⟨?_⟩
  exact rfl
 ·have c0 : (!decide (((a.map Nam.D).length : Int) = ((b.map Nam.D).length : Int))) = false := by simp; omega
  refine run ⟨?_⟩
  refine wq_loop (α := Nat) (fun i => a.length - i) (fun i => [(1, .d (namsD b)), (2, .fn 36 []), (15, .d (namsD a)), (16, i64 a.length), (17, i64 i)]) (fun _ => []) (fun i => i ≤ a.length ∧ zipB eN (a.drop i) (b.drop i) = zipB eN a b) ?_ 0 ⟨Nat.zero_le _, rfl⟩ (by show [_, _, _, (16, i64 ((a.map Nam.D).length : Int)), _] = _; rw [hna]; rfl) rfl
  rintro i ⟨hi, ht⟩
  by_cases hlt : i < a.length
  ·have hlb : i < b.length := by omega
   have c1 : (i : Int) < (a.length : Int) := by omega
   have wi : IntKind.i64.wrap ((i : Int) + 1) = ((i + 1 : Nat) : Int) := by rw [i64w (by omega)]; omega
   rw [zipB_step hlt hlb] at ht
   have ga := gN hlt
   have gb := gN hlb
   have hm := hk (a.getD i default) (by rw [List.getD_eq_getElem?_getD, List.getElem?_eq_getElem hlt]; exact List.getElem_mem _)
   revert ga gb ht hm
   generalize a.getD i default = x
   generalize b.getD i default = y
   intro ht ga gb hm
   have hev := fun H => same2_ev (fx := fx) (F := F) H x y hm
   cases hs : eN x y with
   | true =>
    rw [hs, Bool.true_and] at ht
    rw [hs] at hev
    repeat' (first | refine run ⟨?_⟩ | refine pickD ga ?_ | refine pickD gb ?_ | refine ca (hev _) ?_ | fail)
    exact ⟨i + 1, ⟨by omega, ht⟩, by omega, by rw [wi] <;> rfl, rfl⟩
   | false =>
    rw [hs, Bool.false_and] at ht
    rw [← ht]
    rw [hs] at hev
    repeat' (first | refine run ⟨?_⟩ | refine pickD ga ?_ | refine pickD gb ?_ | refine ca (hev _) ?_ | fail)
    exact rfl
  ·obtain rfl : i = a.length := by omega
   have c1 : ¬ (a.length : Int) < (a.length : Int) := by omega
   rw [zipB_end hl] at ht
   rw [← ht]
   refine run ⟨?_⟩
   exact rfl
set_option maxHeartbeats 4000000 in
theorem eqfC_ev (a b : List Fnc) (ha : a.length ≤ 9223372036854775807) (hk : ∀ x ∈ a, x.ps.length ≤ 9223372036854775807 ∧ x.ms.length ≤ 9223372036854775807) : evF (pgL fx F) n_slices_EqualFunc_api_Fn_api_Fn_api_Fn_api_Fn [.d (fncsD a), .d (fncsD b), .fn 38 []] H = some (boo (zipB eC a b), H) := by
 refine evF_wq (t_slices_EqualFunc_api_Fn_api_Fn_api_Fn_api_Fn (F := F)) rfl rfl ?_ H
 have hna : (a.map Fnc.D).length = a.length := List.length_map ..
 have hnb : (b.map Fnc.D).length = b.length := List.length_map ..
 by_cases hl : a.length = b.length
 rotate_left
 ·have c0 : (!decide (((a.map Fnc.D).length : Int) = ((b.map Fnc.D).length : Int))) = true := by simp; omega
  rw [zipB_len hl]
  refine run ⟨?_⟩
  exact rfl
 ·have c0 : (!decide (((a.map Fnc.D).length : Int) = ((b.map Fnc.D).length : Int))) = false := by simp; omega
  refine run ⟨?_⟩
  refine wq_loop (α := Nat) (fun i => a.length - i) (fun i => [(1, .d (fncsD b)), (2, .fn 38 []), (15, .d (fncsD a)), (16, i64 a.length), (17, i64 i)]) (fun _ => []) (fun i => i ≤ a.length ∧ zipB eC (a.drop i) (b.drop i) = zipB eC a b) ?_ 0 ⟨Nat.zero_le _, rfl⟩ (by show [_, _, _, (16, i64 ((a.map Fnc.D).length : Int)), _] = _; rw [hna]; rfl) rfl
  rintro i ⟨hi, ht⟩
  by_cases hlt : i < a.length
  ·have hlb : i < b.length := by omega
   have c1 : (i : Int) < (a.length : Int) := by omega
   have wi : IntKind.i64.wrap ((i : Int) + 1) = ((i + 1 : Nat) : Int) := by rw [i64w (by omega)]; omega
   rw [zipB_step hlt hlb] at ht
   have ga := gF hlt
   have gb := gF hlb
   have hm := hk (a.getD i default) (by rw [List.getD_eq_getElem?_getD, List.getElem?_eq_getElem hlt]; exact List.getElem_mem _)
   revert ga gb ht hm
   generalize a.getD i default = x
   generalize b.getD i default = y
   intro ht ga gb hm
   have hev := fun H => same3_ev (fx := fx) (F := F) H x y hm.1 hm.2
   cases hs : eC x y with
   | true =>
    rw [hs, Bool.true_and] at ht
    rw [hs] at hev
    repeat' (first | refine run ⟨?_⟩ | refine pickD ga ?_ | refine pickD gb ?_ | refine ca (hev _) ?_ | fail)
    exact ⟨i + 1, ⟨by omega, ht⟩, by omega, by rw [wi] <;> rfl, rfl⟩
   | false =>
    rw [hs, Bool.false_and] at ht
    rw [← ht]
    rw [hs] at hev
    repeat' (first | refine run ⟨?_⟩ | refine pickD ga ?_ | refine pickD gb ?_ | refine ca (hev _) ?_ | fail)
    exact rfl
  ·obtain rfl : i = a.length := by omega
   have c1 : ¬ (a.length : Int) < (a.length : Int) := by omega
   rw [zipB_end hl] at ht
   rw [← ht]
   refine run ⟨?_⟩
   exact rfl
theorem same_ev (a b : Its) (ha : Fine a) : evF (pgL fx F) n_items_Same [.d a.D, .d b.D] H = some (boo (sameB a b), H) := by
 refine evF_wq (t_items_Same (F := F)) rfl rfl ?_ H
 have e1 := fun H => eqfS_ev (fx := fx) (F := F) H a.ss b.ss (Nat.le_trans ha.ss (by decide)) (fun x hx => Nat.le_trans (ha.sf x hx).2.1 (by decide))
 have e2 := fun H => eqfE_ev (fx := fx) (F := F) H a.es b.es (Nat.le_trans ha.es (by decide)) (fun x hx => Nat.le_trans (ha.ef x hx).2.1 (by decide))
 have e3 := fun H => eqfC_ev (fx := fx) (F := F) H a.fs b.fs (Nat.le_trans ha.fs (by decide)) (fun x hx => ⟨Nat.le_trans (ha.ff x hx).2.2.2.1 (by decide), Nat.le_trans (ha.ff x hx).2.2.1 (by decide)⟩)
 unfold sameB
 cases c1 : zipB eN a.ss b.ss with
 | false =>
  rw [c1] at e1
  repeat' (first | refine run ⟨?_⟩ | refine ca (e1 _) ?_ | fail)
  exact rfl
 | true =>
 rw [c1] at e1
 cases c2 : zipB eN a.es b.es with
 | false =>
  rw [c2] at e2
  repeat' (first | refine run ⟨?_⟩ | refine ca (e1 _) ?_ | refine ca (e2 _) ?_ | fail)
  exact rfl
 | true =>
  rw [c2] at e2
  repeat' (first | refine run ⟨?_⟩ | refine ca (e1 _) ?_ | refine ca (e2 _) ?_ | refine ca (e3 _) ?_ | fail)
  exact rfl
end
end Go.Vm.Ite
namespace Go.Vm.Ite
open Go.Vm.Ip
set_option maxRecDepth 10000
set_option linter.unusedVariables false
set_option linter.unusedSimpArgs false
section
variable {fx : Nat → Option Obj} {F : Nat → Option VFun} (H : Hp)
set_option maxHeartbeats 4000000 in
theorem rsame_ev (a b : List Fld) (ha : a.length ≤ 9223372036854775807) : evF (pgL fx F) n_ref14_same [.d (fldsD a), .d (fldsD b)] H = some (boo (zipB eF a b), H) := by
 refine evF_wq (t_ref14_same (F := F)) rfl rfl ?_ H
 have hna : (a.map Fld.D).length = a.length := List.length_map ..
 have hnb : (b.map Fld.D).length = b.length := List.length_map ..
 by_cases hl : a.length = b.length
 rotate_left
 ·have c0 : (!decide (((a.map Fld.D).length : Int) = ((b.map Fld.D).length : Int))) = true := by simp; omega
  rw [zipB_len hl]
  refine run ⟨?_⟩
  exact rfl
 ·have c0 : (!decide (((a.map Fld.D).length : Int) = ((b.map Fld.D).length : Int))) = false := by simp; omega
  refine run ⟨?_⟩
  refine wq_loop (α := Nat) (fun i => a.length - i) (fun i => [(0, .d (fldsD a)), (1, .d (fldsD b)), (5, i64 i)]) (fun _ => []) (fun i => i ≤ a.length ∧ zipB eF (a.drop i) (b.drop i) = zipB eF a b) ?_ 0 ⟨Nat.zero_le _, rfl⟩ rfl rfl
  rintro i ⟨hi, ht⟩
  by_cases hlt : i < a.length
  ·have hlb : i < b.length := by omega
   have c1 : (i : Int) < ((a.map Fld.D).length : Int) := by omega
   have wi : IntKind.i64.wrap ((i : Int) + 1) = ((i + 1 : Nat) : Int) := by rw [i64w (by omega)]; omega
   rw [zipB_step hlt hlb] at ht
   have ga := pF hlt
   have gb := pF hlb
   revert ga gb ht
   generalize a.getD i default = x
   generalize b.getD i default = y
   intro ht ga gb
   cases hs : eF x y with
   | true =>
    rw [hs, Bool.true_and] at ht
    have c2 : (!eqL (D.cells x.D) (D.cells y.D)) = false := by rw [show eqL (D.cells x.D) (D.cells y.D) = eF x y from eqL_fld x y, hs]; rfl
    repeat' (first | refine run ⟨?_⟩ | refine pickD ga ?_ | refine pickD gb ?_ | fail)
    exact ⟨i + 1, ⟨by omega, ht⟩, by omega, by rw [wi] <;> rfl, rfl⟩
   | false =>
    rw [hs, Bool.false_and] at ht
    rw [← ht]
    have c2 : (!eqL (D.cells x.D) (D.cells y.D)) = true := by rw [show eqL (D.cells x.D) (D.cells y.D) = eF x y from eqL_fld x y, hs]; rfl
    repeat' (first | refine run ⟨?_⟩ | refine pickD ga ?_ | refine pickD gb ?_ | fail)
    exact rfl
  ·obtain rfl : i = a.length := by omega
   have c1 : ¬ (a.length : Int) < ((a.map Fld.D).length : Int) := by omega
   rw [zipB_end hl] at ht
   rw [← ht]
   refine run ⟨?_⟩
   exact rfl
set_option maxHeartbeats 8000000 in
theorem rSame_ev (a b : Its) (hfa : Fine a) : evF (pgL fx F) n_ref14_Same [.d a.D, .d b.D] H = some (boo (sameB a b), H) := by
 refine evF_wq (t_ref14_Same (F := F)) rfl rfl ?_ H
 have s1 : (a.ss.map Nam.D).length = a.ss.length := List.length_map ..
 have s2 : (b.ss.map Nam.D).length = b.ss.length := List.length_map ..
 have s3 : (a.es.map Nam.D).length = a.es.length := List.length_map ..
 have s4 : (b.es.map Nam.D).length = b.es.length := List.length_map ..
 have s5 : (a.fs.map Fnc.D).length = a.fs.length := List.length_map ..
 have s6 : (b.fs.map Fnc.D).length = b.fs.length := List.length_map ..
 have has : a.ss.length ≤ 140737488355328 := hfa.ss
 have hae : a.es.length ≤ 140737488355328 := hfa.es
 have haf : a.fs.length ≤ 140737488355328 := hfa.fs
 unfold sameB
 by_cases lss : a.ss.length = b.ss.length
 rotate_left
 ·have dss : (!decide (((a.ss.map Nam.D).length : Int) = ((b.ss.map Nam.D).length : Int))) = true := by simp; omega
  rw [zipB_len lss, Bool.false_and]
  refine run ⟨?_⟩
  exact rfl
 have dss : (!decide (((a.ss.map Nam.D).length : Int) = ((b.ss.map Nam.D).length : Int))) = false := by simp; omega
 by_cases les : a.es.length = b.es.length
 rotate_left
 ·have des : (!decide (((a.es.map Nam.D).length : Int) = ((b.es.map Nam.D).length : Int))) = true := by simp; omega
  rw [zipB_len les, Bool.false_and, Bool.and_false]
  refine run ⟨?_⟩
  exact rfl
 have des : (!decide (((a.es.map Nam.D).length : Int) = ((b.es.map Nam.D).length : Int))) = false := by simp; omega
 by_cases lfs : a.fs.length = b.fs.length
 rotate_left
 ·have dfs : (!decide (((a.fs.map Fnc.D).length : Int) = ((b.fs.map Fnc.D).length : Int))) = true := by simp; omega
  rw [zipB_len lfs, Bool.and_false, Bool.and_false]
  refine run ⟨?_⟩
  exact rfl
 have dfs : (!decide (((a.fs.map Fnc.D).length : Int) = ((b.fs.map Fnc.D).length : Int))) = false := by simp; omega
 refine run ⟨?_⟩
 refine wq_loop (α := Nat) (fun i => a.ss.length - i) (fun i => [(2, .ptr 0 0), (3, .ptr 1 0), (5, i64 i)]) (fun _ => [IB a, IB b]) (fun i => i ≤ a.ss.length ∧ zipB eN (a.ss.drop i) (b.ss.drop i) = zipB eN a.ss b.ss) ?_ 0 ⟨Nat.zero_le _, rfl⟩ rfl rfl
 rintro i ⟨hi, ht⟩
 by_cases hlt : i < a.ss.length
 ·have hlb : i < b.ss.length := by omega
  have c1 : (i : Int) < ((a.ss.map Nam.D).length : Int) := by omega
  have wi : IntKind.i64.wrap ((i : Int) + 1) = ((i + 1 : Nat) : Int) := by rw [i64w (by omega)]; omega
  rw [zipB_step hlt hlb] at ht
  have ga := gN hlt
  have gb := gN hlb
  have hm : (a.ss.getD i default).fs.length ≤ 9223372036854775807 := Nat.le_trans (hfa.sf _ (by rw [List.getD_eq_getElem?_getD, List.getElem?_eq_getElem hlt]; exact List.getElem_mem _)).2.1 (by decide)
  revert ga gb ht hm
  generalize a.ss.getD i default = x
  generalize b.ss.getD i default = y
  intro ht ga gb hm
  have he := fun H => rsame_ev (fx := fx) (F := F) H x.fs y.fs hm
  have hex : eN x y = (decide (x.n = y.n) && zipB eF x.fs y.fs) := rfl
  rw [hex] at ht
  by_cases cn : x.n = y.n
  ·rw [decide_eq_true cn, Bool.true_and] at ht
   have dn : (!decide (x.n = y.n)) = false := by rw [decide_eq_true cn]; rfl
   cases hz : zipB eF x.fs y.fs with
   | true =>
    rw [hz] at ht he
    rw [Bool.true_and] at ht
    repeat' (first | refine run ⟨?_⟩ | refine pickD ga ?_ | refine pickD gb ?_ | refine ca (he _) ?_ | fail)
    exact ⟨i + 1, ⟨by omega, ht⟩, by omega, by rw [wi] <;> rfl, rfl⟩
   | false =>
    rw [hz] at ht he
    rw [Bool.false_and] at ht
    rw [← ht]
    repeat' (first | refine run ⟨?_⟩ | refine pickD ga ?_ | refine pickD gb ?_ | refine ca (he _) ?_ | fail)
    exact rfl
  ·rw [decide_eq_false cn, Bool.false_and, Bool.false_and] at ht
   have dn : (!decide (x.n = y.n)) = true := by rw [decide_eq_false cn]; rfl
   rw [← ht]
   repeat' (first | refine run ⟨?_⟩ | refine pickD ga ?_ | refine pickD gb ?_ | refine ca (he _) ?_ | fail)
   exact rfl
 ·obtain rfl : i = a.ss.length := by omega
  have c1 : ¬ (a.ss.length : Int) < ((a.ss.map Nam.D).length : Int) := by omega
  rw [zipB_end lss] at ht
  rw [← ht, Bool.true_and]
  refine run ⟨?_⟩
  refine wq_loop (α := Nat) (fun i => a.es.length - i) (fun i => [(2, .ptr 0 0), (3, .ptr 1 0), (6, i64 i)]) (fun _ => [IB a, IB b]) (fun i => i ≤ a.es.length ∧ zipB eN (a.es.drop i) (b.es.drop i) = zipB eN a.es b.es) ?_ 0 ⟨Nat.zero_le _, rfl⟩ rfl rfl
  rintro i ⟨hi, ht⟩
  by_cases hlt : i < a.es.length
  ·have hlb : i < b.es.length := by omega
   have c1 : (i : Int) < ((a.es.map Nam.D).length : Int) := by omega
   have wi : IntKind.i64.wrap ((i : Int) + 1) = ((i + 1 : Nat) : Int) := by rw [i64w (by omega)]; omega
   rw [zipB_step hlt hlb] at ht
   have ga := gN hlt
   have gb := gN hlb
   have hm : (a.es.getD i default).fs.length ≤ 9223372036854775807 := Nat.le_trans (hfa.ef _ (by rw [List.getD_eq_getElem?_getD, List.getElem?_eq_getElem hlt]; exact List.getElem_mem _)).2.1 (by decide)
   revert ga gb ht hm
   generalize a.es.getD i default = x
   generalize b.es.getD i default = y
   intro ht ga gb hm
   have he := fun H => rsame_ev (fx := fx) (F := F) H x.fs y.fs hm
   have hex : eN x y = (decide (x.n = y.n) && zipB eF x.fs y.fs) := rfl
   rw [hex] at ht
   by_cases cn : x.n = y.n
   ·rw [decide_eq_true cn, Bool.true_and] at ht
    have dn : (!decide (x.n = y.n)) = false := by rw [decide_eq_true cn]; rfl
    cases hz : zipB eF x.fs y.fs with
    | true =>
     rw [hz] at ht he
     rw [Bool.true_and] at ht
     repeat' (first | refine run ⟨?_⟩ | refine pickD ga ?_ | refine pickD gb ?_ | refine ca (he _) ?_ | fail)
     exact ⟨i + 1, ⟨by omega, ht⟩, by omega, by rw [wi] <;> rfl, rfl⟩
    | false =>
     rw [hz] at ht he
     rw [Bool.false_and] at ht
     rw [← ht]
     repeat' (first | refine run ⟨?_⟩ | refine pickD ga ?_ | refine pickD gb ?_ | refine ca (he _) ?_ | fail)
     exact rfl
   ·rw [decide_eq_false cn, Bool.false_and, Bool.false_and] at ht
    have dn : (!decide (x.n = y.n)) = true := by rw [decide_eq_false cn]; rfl
    rw [← ht]
    repeat' (first | refine run ⟨?_⟩ | refine pickD ga ?_ | refine pickD gb ?_ | refine ca (he _) ?_ | fail)
    exact rfl
  ·obtain rfl : i = a.es.length := by omega
   have c1 : ¬ (a.es.length : Int) < ((a.es.map Nam.D).length : Int) := by omega
   rw [zipB_end les] at ht
   rw [← ht, Bool.true_and]
   refine run ⟨?_⟩
   refine wq_loop (α := Nat) (fun i => a.fs.length - i) (fun i => [(2, .ptr 0 0), (3, .ptr 1 0), (7, i64 i)]) (fun _ => [IB a, IB b]) (fun i => i ≤ a.fs.length ∧ zipB eC (a.fs.drop i) (b.fs.drop i) = zipB eC a.fs b.fs) ?_ 0 ⟨Nat.zero_le _, rfl⟩ rfl rfl
   rintro i ⟨hi, ht⟩
   by_cases hlt : i < a.fs.length
   ·have hlb : i < b.fs.length := by omega
    have c1 : (i : Int) < ((a.fs.map Fnc.D).length : Int) := by omega
    have wi : IntKind.i64.wrap ((i : Int) + 1) = ((i + 1 : Nat) : Int) := by rw [i64w (by omega)]; omega
    rw [zipB_step hlt hlb] at ht
    have ga := gF hlt
    have gb := gF hlb
    have hm := hfa.ff (a.fs.getD i default) (by rw [List.getD_eq_getElem?_getD, List.getElem?_eq_getElem hlt]; exact List.getElem_mem _)
    revert ga gb ht hm
    generalize a.fs.getD i default = x
    generalize b.fs.getD i default = y
    intro ht ga gb hm
    have hmp : x.ps.length ≤ 4398046511104 := hm.2.2.2.1
    have hmm : x.ms.length ≤ 140737488355328 := hm.2.2.1
    have he := fun H => rsame_ev (fx := fx) (F := F) H x.ps y.ps (by omega)
    have w1 : (x.ms.map D.bool).length = x.ms.length := List.length_map ..
    have w2 : (y.ms.map D.bool).length = y.ms.length := List.length_map ..
    have g1 : grew [IB a, IB b] ([IB a, IB b] ++ [.box [str [], .nils, .nils, str [], i64 0]]) = true := (grew_snoc _ _).trans rfl
    have g2 : grew ([IB a, IB b] ++ [.box [str [], .nils, .nils, str [], i64 0]]) ([IB a, IB b] ++ [.box [str [], .nils, .nils, str [], i64 0]] ++ [.box [str [], .nils, .nils, str [], i64 0]]) = true := (grew_snoc _ _).trans rfl
    have hex : eC x y = (decide (x.n = y.n) && (decide (x.r = y.r) && (decide (x.d = y.d) && (zipB eF x.ps y.ps && zipB eB x.ms y.ms)))) := rfl
    rw [hex] at ht
    by_cases cn : x.n = y.n
    rotate_left
    ·rw [decide_eq_false cn, Bool.false_and, Bool.false_and] at ht
     have dn : (!decide (x.n = y.n)) = true := by rw [decide_eq_false cn]; rfl
     rw [← ht]
     repeat' (first | refine rund ⟨?_⟩ | refine pickD ga ?_ | refine pickD gb ?_ | refine And.intro g1 ?_ | refine And.intro g2 ?_ | refine q_drawS (a := 10) rfl rfl ?_ | fail)
     exact rfl
    have dn : (!decide (x.n = y.n)) = false := by rw [decide_eq_true cn]; rfl
    rw [decide_eq_true cn, Bool.true_and] at ht
    by_cases cr : x.r = y.r
    rotate_left
    ·rw [decide_eq_false cr, Bool.false_and, Bool.false_and] at ht
     have dr : (!decide (x.r = y.r)) = true := by rw [decide_eq_false cr]; rfl
     rw [← ht]
     repeat' (first | refine rund ⟨?_⟩ | refine pickD ga ?_ | refine pickD gb ?_ | refine And.intro g1 ?_ | refine And.intro g2 ?_ | refine q_drawS (a := 10) rfl rfl ?_ | fail)
     exact rfl
    have dr : (!decide (x.r = y.r)) = false := by rw [decide_eq_true cr]; rfl
    rw [decide_eq_true cr, Bool.true_and] at ht
    by_cases cd : x.d = y.d
    rotate_left
    ·rw [decide_eq_false cd, Bool.false_and, Bool.false_and] at ht
     have dd : (!decide (x.d = y.d)) = true := by rw [decide_eq_false cd]; rfl
     rw [← ht]
     repeat' (first | refine rund ⟨?_⟩ | refine pickD ga ?_ | refine pickD gb ?_ | refine And.intro g1 ?_ | refine And.intro g2 ?_ | refine q_drawS (a := 10) rfl rfl ?_ | fail)
     exact rfl
    have dd : (!decide (x.d = y.d)) = false := by rw [decide_eq_true cd]; rfl
    rw [decide_eq_true cd, Bool.true_and] at ht
    cases hz : zipB eF x.ps y.ps with
    | false =>
     rw [hz] at ht he
     rw [Bool.false_and, Bool.false_and] at ht
     rw [← ht]
     repeat' (first | refine rund ⟨?_⟩ | refine pickD ga ?_ | refine pickD gb ?_ | refine And.intro g1 ?_ | refine And.intro g2 ?_ | refine ca (he _) ?_ | refine q_drawS (a := 10) rfl rfl ?_ | fail)
     exact rfl
    | true =>
    rw [hz] at ht he
    rw [Bool.true_and] at ht
    by_cases cm : x.ms.length = y.ms.length
    rotate_left
    ·have dm : (!decide (((x.ms.map D.bool).length : Int) = ((y.ms.map D.bool).length : Int))) = true := by simp; omega
     rw [zipB_len cm, Bool.false_and] at ht
     rw [← ht]
     repeat' (first | refine rund ⟨?_⟩ | refine pickD ga ?_ | refine pickD gb ?_ | refine And.intro g1 ?_ | refine And.intro g2 ?_ | refine ca (he _) ?_ | refine q_drawS (a := 10) rfl rfl ?_ | fail)
     exact rfl
    have dm : (!decide (((x.ms.map D.bool).length : Int) = ((y.ms.map D.bool).length : Int))) = false := by simp; omega
    repeat' (first | refine rund ⟨?_⟩ | refine pickD ga ?_ | refine pickD gb ?_ | refine And.intro g1 ?_ | refine And.intro g2 ?_ | refine ca (he _) ?_ | refine q_drawS (a := 10) rfl rfl ?_ | fail)
    refine wq_loop (α := Nat) (fun k => x.ms.length - k) (fun k => [(2, .ptr 0 0), (3, .ptr 1 0), (7, i64 i), (8, .ptr 2 0), (9, .ptr 3 0), (10, i64 k)]) (fun _ => [IB a, IB b, .box [str x.n, .d (fldsD x.ps), .d (boosD x.ms), str x.r, i64 x.d], .box [str y.n, .d (fldsD y.ps), .d (boosD y.ms), str y.r, i64 y.d]]) (fun k => k ≤ x.ms.length ∧ zipB eB (x.ms.drop k) (y.ms.drop k) = zipB eB x.ms y.ms) ?_ 0 ⟨Nat.zero_le _, rfl⟩ rfl rfl
    rintro k ⟨hk, hkz⟩
    by_cases hlk : k < x.ms.length
    ·have hlk2 : k < y.ms.length := by omega
     have c3 : (k : Int) < ((x.ms.map D.bool).length : Int) := by omega
     have wk : IntKind.i64.wrap ((k : Int) + 1) = ((k + 1 : Nat) : Int) := by rw [i64w (by omega)]; omega
     rw [zipB_step hlk hlk2] at hkz
     have gp := pB hlk
     have gq := pB hlk2
     revert gp gq hkz
     generalize x.ms.getD k default = u
     generalize y.ms.getD k default = v
     intro hkz gp gq
     cases hs : eB u v with
     | true =>
      rw [hs, Bool.true_and] at hkz
      have c4 : (if true then !(u == v) else u == v) = false := by rw [show (u == v) = eB u v from rfl, hs]; rfl
      repeat' (first | refine run ⟨?_⟩ | refine pickD gp ?_ | refine pickD gq ?_ | fail)
      exact ⟨k + 1, ⟨by omega, hkz⟩, by omega, by rw [wk] <;> rfl, rfl⟩
     | false =>
      rw [hs, Bool.false_and] at hkz
      rw [← hkz, Bool.false_and] at ht
      rw [← ht]
      have c4 : (if true then !(u == v) else u == v) = true := by rw [show (u == v) = eB u v from rfl, hs]; rfl
      repeat' (first | refine run ⟨?_⟩ | refine pickD gp ?_ | refine pickD gq ?_ | fail)
      exact rfl
    ·obtain rfl : k = x.ms.length := by omega
     have c3 : ¬ (x.ms.length : Int) < ((x.ms.map D.bool).length : Int) := by omega
     rw [zipB_end cm] at hkz
     rw [← hkz, Bool.true_and] at ht
     refine run ⟨?_⟩
     exact ⟨i + 1, ⟨by omega, ht⟩, by omega, by rw [wi] <;> rfl, rfl⟩
   ·obtain rfl : i = a.fs.length := by omega
    have c1 : ¬ (a.fs.length : Int) < ((a.fs.map Fnc.D).length : Int) := by omega
    rw [zipB_end lfs] at ht
    rw [← ht]
    refine run ⟨?_⟩
    exact rfl
end
end Go.Vm.Ite
namespace Go.Vm
mutual
def eqD : D → D → Bool
 | .bool a, .bool b => a == b
 | .int k a, .int j b => decide (k = j) && decide (a = b)
 | .str a, .str b => decide (a = b)
 | .sl a, .sl b => eqDs a b
 | .agg a, .agg b => eqDs a b
 | _, _ => false
def eqDs : List D → List D → Bool
 | [], [] => true
 | a :: l, b :: m => eqD a b && eqDs l m
 | _, _ => false
end
mutual
theorem eqD_eq : ∀ (a b : D), eqD a b = true → a = b
 | .bool a, b, h => by cases b <;> simp only [eqD, beq_iff_eq, Bool.false_eq_true] at h; rw [h]
 | .int k a, b, h => by cases b <;> simp only [eqD, Bool.and_eq_true, decide_eq_true_eq, Bool.false_eq_true] at h; rw [h.1, h.2]
 | .str a, b, h => by cases b <;> simp only [eqD, decide_eq_true_eq, Bool.false_eq_true] at h; rw [h]
 | .sl a, b, h => by cases b <;> simp only [eqD, Bool.false_eq_true] at h; rw [eqDs_eq _ _ h]
 | .agg a, b, h => by cases b <;> simp only [eqD, Bool.false_eq_true] at h; rw [eqDs_eq _ _ h]
theorem eqDs_eq : ∀ (a b : List D), eqDs a b = true → a = b
 | [], b, h => by cases b <;> simp only [eqDs, Bool.false_eq_true] at h; rfl
 | a :: l, b, h => by cases b <;> simp only [eqDs, Bool.and_eq_true, Bool.false_eq_true] at h; rw [eqD_eq _ _ h.1, eqDs_eq _ _ h.2]
end
mutual
def eqV : V → V → Bool
 | .d a, .d b => eqD a b
 | .agg a, .agg b => eqVs a b
 | .tup a, .tup b => eqVs a b
 | .nils, .nils => true
 | .row a b, .row c d => decide (a = c) && decide (b = d)
 | .arr a b c, .arr d e f => decide (a = d) && (decide (b = e) && decide (c = f))
 | .ptr a b, .ptr c d => decide (a = c) && decide (b = d)
 | .ro a b, .ro c d => eqDs a c && decide (b = d)
 | .fn a b, .fn c d => decide (a = c) && eqVs b d
 | .fm a b, .fm c d => decide (a = c) && eqVs b d
 | .nul, .nul => true
 | .nof, .nof => true
 | .ifc a, .ifc b => a == b
 | .nmp, .nmp => true
 | .nile, .nile => true
 | .mp a, .mp b => decide (a = b)
 | .undef, .undef => true
 | _, _ => false
def eqVs : List V → List V → Bool
 | [], [] => true
 | a :: l, b :: m => eqV a b && eqVs l m
 | _, _ => false
end
mutual
theorem eqV_eq : ∀ (a b : V), eqV a b = true → a = b
 | .d a, b, h => by cases b <;> simp only [eqV, Bool.false_eq_true] at h; rw [eqD_eq _ _ h]
 | .agg a, b, h => by cases b <;> simp only [eqV, Bool.false_eq_true] at h; rw [eqVs_eq _ _ h]
 | .tup a, b, h => by cases b <;> simp only [eqV, Bool.false_eq_true] at h; rw [eqVs_eq _ _ h]
 | .nils, b, h => by cases b <;> simp only [eqV, Bool.false_eq_true] at h; rfl
 | .row .., b, h => by cases b <;> simp only [eqV, Bool.and_eq_true, decide_eq_true_eq, Bool.false_eq_true] at h; rw [h.1, h.2]
 | .arr .., b, h => by cases b <;> simp only [eqV, Bool.and_eq_true, decide_eq_true_eq, Bool.false_eq_true] at h; rw [h.1, h.2.1, h.2.2]
 | .ptr .., b, h => by cases b <;> simp only [eqV, Bool.and_eq_true, decide_eq_true_eq, Bool.false_eq_true] at h; rw [h.1, h.2]
 | .ro .., b, h => by cases b <;> simp only [eqV, Bool.and_eq_true, decide_eq_true_eq, Bool.false_eq_true] at h; rw [eqDs_eq _ _ h.1, h.2]
 | .fn _ c, b, h => by cases b <;> simp only [eqV, Bool.and_eq_true, decide_eq_true_eq, Bool.false_eq_true] at h; rw [h.1, eqVs_eq c _ h.2]
 | .fm _ c, b, h => by cases b <;> simp only [eqV, Bool.and_eq_true, decide_eq_true_eq, Bool.false_eq_true] at h; rw [h.1, eqVs_eq c _ h.2]
 | .nul, b, h => by cases b <;> simp only [eqV, Bool.false_eq_true] at h; rfl
 | .nof, b, h => by cases b <;> simp only [eqV, Bool.false_eq_true] at h; rfl
 | .ifc a, b, h => by cases b <;> simp only [eqV, beq_iff_eq, Bool.false_eq_true] at h; rw [h]
 | .raw a, b, h => by cases b <;> simp only [eqV, Bool.false_eq_true] at h
 | .nmp, b, h => by cases b <;> simp only [eqV, Bool.false_eq_true] at h; rfl
 | .nile, b, h => by cases b <;> simp only [eqV, Bool.false_eq_true] at h; rfl
 | .mp .., b, h => by cases b <;> simp only [eqV, decide_eq_true_eq, Bool.false_eq_true] at h; rw [h]
 | .undef, b, h => by cases b <;> simp only [eqV, Bool.false_eq_true] at h; rfl
theorem eqVs_eq : ∀ (a b : List V), eqVs a b = true → a = b
 | [], b, h => by cases b <;> simp only [eqVs, Bool.false_eq_true] at h; rfl
 | a :: l, b, h => by cases b <;> simp only [eqVs, Bool.and_eq_true, Bool.false_eq_true] at h; rw [eqV_eq _ _ h.1, eqVs_eq _ _ h.2]
end
def eqPs : List (D × D) → List (D × D) → Bool
 | [], [] => true
 | a :: l, b :: m => eqD a.1 b.1 && (eqD a.2 b.2 && eqPs l m)
 | _, _ => false
theorem eqPs_eq : ∀ (a b : List (D × D)), eqPs a b = true → a = b
 | [], b, h => by cases b <;> simp only [eqPs, Bool.false_eq_true] at h; rfl
 | (x, y) :: l, b, h => by
   cases b with
   | nil => simp only [eqPs, Bool.false_eq_true] at h
   | cons z m =>
    obtain ⟨z1, z2⟩ := z
    simp only [eqPs, Bool.and_eq_true] at h
    rw [eqD_eq _ _ h.1, eqD_eq _ _ h.2.1, eqPs_eq _ _ h.2.2]
def eqOb : Ob → Ob → Bool
 | .box a, .box b => eqVs a b
 | .frz a, .frz b => eqDs a b
 | .row n a, .row m b => decide (n = m) && eqDs a b
 | .map a, .map b => eqPs a b
 | _, _ => false
theorem eqOb_eq {a b : Ob} (h : eqOb a b = true) : a = b := by
 cases a <;> cases b <;> simp only [eqOb, Bool.and_eq_true, decide_eq_true_eq, Bool.false_eq_true] at h
 ·rw [eqVs_eq _ _ h]
 ·rw [eqDs_eq _ _ h]
 ·rw [h.1, eqDs_eq _ _ h.2]
 ·rw [eqPs_eq _ _ h]
def eqHp : Hp → Hp → Bool
 | [], [] => true
 | a :: l, b :: m => eqOb a b && eqHp l m
 | _, _ => false
theorem eqHp_eq : ∀ (a b : Hp), eqHp a b = true → a = b
 | [], b, h => by cases b <;> simp only [eqHp, Bool.false_eq_true] at h; rfl
 | a :: l, b, h => by cases b <;> simp only [eqHp, Bool.and_eq_true, Bool.false_eq_true] at h; rw [eqOb_eq h.1, eqHp_eq _ _ h.2]
def grewB (h h' : Hp) : Bool := eqHp h (h'.take h.length) && newOk h'.length (h'.drop h.length)
theorem grewB_t {h h' : Hp} (x : grewB h h' = true) : grew h h' = true := by
 simp only [grewB, Bool.and_eq_true] at x
 simp only [grew, Bool.and_eq_true, decide_eq_true_eq]
 exact ⟨⟨h'.drop h.length, by conv => lhs; rw [← List.take_append_drop h.length h', ← eqHp_eq _ _ x.1]⟩, x.2⟩
def hdE : Env → V
 | (_, v) :: _ => v
 | [] => .undef
def samQ (o : VOper) (x : Option St) (q : St) (H1 : Hp) : Bool := match x with
 | some y => (pureO o.op || eqHp y.h H1) && (match o.dst with | none => true | some _ => eqV (hdE y.e) (hdE q.e))
 | none => false
variable {cx : Cx} {orc : Orc}
theorem quiet_h {o : VOper} {s q : St} (h : evOper cx orc o s = some q) (hp : pureO o.op = true) : q.h = s.h := by
 unfold evOper at h
 split at h
 ·obtain ⟨r, hr, rfl⟩ := Option.map_eq_some_iff.1 h
  exact pure_hG hp (v := r.1) (H' := r.2) hr
 ·unfold grd at h
  split at h
  ·split at h
   ·obtain ⟨r, hr, rfl⟩ := Option.map_eq_some_iff.1 h
    exact pure_hG hp (v := r.1) (H' := r.2) hr
   ·cases h; rfl
  ·cases h; rfl
  ·cases h
theorem same_eq {o : VOper} {s q : St} {H1 : Hp} (h : evOper cx orc o s = some q) (hs : samQ o (evOper cx orc o ⟨s.e, H1, s.b⟩) q H1 = true) : evOper cx orc o ⟨s.e, H1, s.b⟩ = some ⟨q.e, H1, s.b⟩ := by
 unfold samQ at hs
 split at hs
 ·rename_i y hy
  simp only [Bool.and_eq_true, Bool.or_eq_true] at hs
  have hh : y.h = H1 := hs.1.elim (fun p => quiet_h hy p) (fun p => eqHp_eq _ _ p)
  obtain ⟨v, hv⟩ := evOper_e h
  obtain ⟨w, hw⟩ := evOper_e hy
  have he : y.e = q.e := by
   rw [hv, hw]
   cases hd : o.dst with
   | none => rfl
   | some d =>
    have h2 := hs.2
    rw [hd] at h2
    simp only [hv, hw, hd, putE, hdE] at h2
    rw [eqV_eq _ _ h2]
  rw [hy, ← he, ← hh, ← evOper_b hy]
 ·cases hs
def cDraw (cx : Cx) (orc : Orc) : Nat → List VOper → St → Option St
 | _, [], s => some s
 | 0, r, s => evOps cx orc r s
 | m + 1, o :: r, s => (evOper cx orc o s).bind fun s' => if (pureO o.op || grewB s.h s'.h) && dstOk o.dst s' then cDraw cx orc m r s' else none
theorem cDraw_ok : ∀ {m : Nat} {r : List VOper} {s q : St}, cDraw cx orc m r s = some q → evDraw cx orc m r s = some q
 | 0, [], _, _, h => h
 | _ + 1, [], _, _, h => h
 | 0, _ :: _, _, _, h => h
 | m + 1, o :: r, s, q, h => by
   simp only [cDraw] at h
   simp only [evDraw]
   cases hx : evOper cx orc o s with
   | none => rw [hx] at h; cases h
   | some s1 =>
    rw [hx] at h
    simp only [Option.bind_some] at h ⊢
    split at h
    ·rename_i hc
     simp only [Bool.and_eq_true, Bool.or_eq_true] at hc
     have hg : grew s.h s1.h = true := hc.1.elim (fun p => by rw [quiet_h hx p]; exact grew_self _) grewB_t
     rw [if_pos (by rw [hg, hc.2]; rfl)]
     exact cDraw_ok h
    ·cases h
def cBh (cx : Cx) (orc : Orc) (d : Option Nat) (H0 : Hp) : Nat → List VOper → St → Option St
 | _, [], s => some s
 | 0, r, s => evOps cx orc r s
 | m + 1, o :: r, s => (evOper cx orc o s).bind fun s' => if (pureO o.op || eqHp s'.h s.h) && (namedB d o || samQ o (evOper cx orc o ⟨s.e, H0, s.b⟩) s' H0) then cBh cx orc d H0 m r s' else none
def accB (cx : Cx) (orc : Orc) (H1 : Hp) (b : Nat) : List (VOper × St × St) → Bool
 | [] => true
 | (o, s, q) :: r => samQ o (evOper cx orc o ⟨s.e, H1, b⟩) q H1 && accB cx orc H1 b r
def cZ (cx : Cx) (orc : Orc) (acc : List (VOper × St × St)) (o : VOper) (s s1 : St) : List VOper → Option St
 | [] => none
 | z :: r => match evOper cx orc z s1, evOper cx orc z ⟨s1.e, s.h, s.b⟩ with
   | some s2, some s3 => match evOper cx orc o ⟨s.e, s3.h, s.b⟩ with
     | some s4 => if (z.dst.isNone || eqV (hdE s3.e) (hdE s2.e)) && ((o.dst.isNone || eqV (hdE s4.e) (hdE s1.e)) && (eqHp s4.h s2.h && (accB cx orc s1.h s.b acc && (accB cx orc s3.h s.b acc && accB cx orc s2.h s.b acc)))) then evOps cx orc r s2 else none
     | none => none
   | _, _ => none
def cGo (cx : Cx) (orc : Orc) (acc : List (VOper × St × St)) : Nat → List VOper → St → Option St
 | _, [], s => some s
 | 0, r, s => evOps cx orc r s
 | m + 1, o :: r, s => (evOper cx orc o s).bind fun s' =>
   if (pureO o.op || eqHp s'.h s.h) then (if dstOk o.dst s' then cGo cx orc ((o, s, s') :: acc) m r s' else none)
   else if grewB s.h s'.h && dstOk o.dst s' then cDraw cx orc m r s'
   else match (if Nat.ble m r.length && accB cx orc s'.h s.b acc then cBh cx orc o.dst s.h m r s' else none) with
    | some q => some q
    | none => if m = 1 then cZ cx orc acc o s s' r else none
section
variable {pg : Pg}
theorem Ahd.snocG {b : Nat} {s : St} {pre : List VOper} {e e' : Env} {chk chk' : Hp → Prop → Prop} (A : Ahd (pg := pg) b s pre e chk) {o : VOper} (h : evOper pg.toCx (evF pg) o ⟨e, s.h, b⟩ = some ⟨e', s.h, b⟩)
 (hcc : ∀ H1 P, chk' H1 P → evOper pg.toCx (evF pg) o ⟨e, H1, b⟩ = some ⟨e', H1, b⟩ ∧ chk H1 P) : Ahd (pg := pg) b s (pre ++ [o]) e' chk' := by
 have hr := evOps_snoc A.run h
 refine ⟨hr, fun i q hi hq => ?_, fun H1 P hc => ?_⟩
 ·rw [List.length_append, List.length_singleton] at hi
  by_cases c : i ≤ pre.length
  ·rw [take_snoc c] at hq; exact A.quiet i q c hq
  ·have : i = pre.length + 1 := by omega
   rw [this, List.take_of_length_le (by simp), hr] at hq
   cases hq; rfl
 ·obtain ⟨h1, h4⟩ := hcc H1 P hc
  obtain ⟨hP, hall⟩ := A.chk H1 P h4
  refine ⟨hP, fun i p q q' hp hq hq' => ?_⟩
  by_cases c : i < pre.length
  ·rw [List.getElem?_append_left c] at hp
   rw [take_snoc (by omega)] at hq hq'
   exact hall i p q q' hp hq hq'
  ·have hi : i = pre.length := by
    have := (List.getElem?_eq_some_iff.1 hp).1
    rw [List.length_append, List.length_singleton] at this
    omega
   subst hi
   rw [List.getElem?_append_right (Nat.le_refl _), Nat.sub_self] at hp
   cases hp
   rw [take_snoc (Nat.le_refl _), List.take_of_length_le (Nat.le_refl _), A.run] at hq
   rw [List.take_of_length_le (by simp), hr] at hq'
   cases hq; cases hq'
   exact h1
theorem dirtyZ_of {b d : Nat} {ops : List VOper} {od oz : VOper} {e : Env} {H H10 H01 H5 : Hp} {e1 e4 e5 : Env} {chk : Hp → Prop → Prop} {s' : St} (hlen : d + 2 ≤ ops.length) (hod : ops[d]? = some od) (hoz : ops[d + 1]? = some oz)
 (A : Ahd (pg := pg) b ⟨e, H, b⟩ (ops.take d) e1 chk)
 (g1 : evOper pg.toCx (evF pg) od ⟨e1, H, b⟩ = some ⟨e5, H10, b⟩) (g2 : evOper pg.toCx (evF pg) oz ⟨e5, H10, b⟩ = some ⟨e4, H5, b⟩)
 (g3 : evOper pg.toCx (evF pg) oz ⟨e5, H, b⟩ = some ⟨e4, H01, b⟩) (g4 : evOper pg.toCx (evF pg) od ⟨e1, H01, b⟩ = some ⟨e5, H5, b⟩)
 (k10 : chk H10 True) (k01 : chk H01 True) (k11 : chk H5 True) (hops : evOps pg.toCx (evF pg) ops ⟨e, H, b⟩ = some s') : Dirty pg.toCx (evF pg) (d + 2) ops ⟨e, H, b⟩ := by
 have htd : (ops.take d).length = d := by rw [List.length_take]; omega
 have c10 := (A.chk _ _ k10).2
 have c01 := (A.chk _ _ k01).2
 have c11 := (A.chk _ _ k11).2
 have r1 : evOps pg.toCx (evF pg) (ops.take (d + 1)) ⟨e, H, b⟩ = some ⟨e5, H10, b⟩ := by
  rw [List.take_add_one, hod]; exact evOps_snoc A.run g1
 have r2 : evOps pg.toCx (evF pg) (ops.take (d + 2)) ⟨e, H, b⟩ = some ⟨e4, H5, b⟩ := by
  rw [show d + 2 = d + 1 + 1 from rfl, List.take_add_one, hoz]; exact evOps_snoc r1 g2
 refine .inr (.inl ?_)
 have pref : ∀ i, ∃ q, evOps pg.toCx (evF pg) (ops.take i) ⟨e, H, b⟩ = some q := by
  intro i
  have h := hops
  rw [← List.take_append_drop i ops, evOps_app] at h
  cases hq : evOps pg.toCx (evF pg) (ops.take i) ⟨e, H, b⟩ with
  | none => rw [hq] at h; cases h
  | some q => exact ⟨q, rfl⟩
 have one : ∀ {i o q q'}, ops[i]? = some o → evOps pg.toCx (evF pg) (ops.take i) ⟨e, H, b⟩ = some q → evOps pg.toCx (evF pg) (ops.take (i + 1)) ⟨e, H, b⟩ = some q' → evOper pg.toCx (evF pg) o q = some q' := by
  intro i o q q' ho hq hq'
  rw [List.take_add_one, evOps_app, hq, ho] at hq'
  simp only [Option.toList, Option.bind_some, evOps] at hq'
  cases hx : evOper pg.toCx (evF pg) o q with
  | none => rw [hx] at hq'; cases hq'
  | some y => rw [hx] at hq'; exact hq'
 obtain ⟨τ, hτ⟩ : ∃ τ : Nat → St, ∀ i, evOps pg.toCx (evF pg) (ops.take i) ⟨e, H, b⟩ = some (τ i) := ⟨fun i => (pref i).choose, fun i => (pref i).choose_spec⟩
 have hv : ∀ i, ∃ x, ∀ o, ops[i]? = some o → (τ (i + 1)).e = putE o.dst x (τ i).e := by
  intro i
  cases ho : ops[i]? with
  | none => exact ⟨.undef, fun o h => by cases h⟩
  | some o =>
   obtain ⟨x, hx⟩ := evOper_e (one ho (hτ i) (hτ (i + 1)))
   exact ⟨x, fun o' h => by cases h; exact hx⟩
 obtain ⟨val, hval⟩ : ∃ val : Nat → V, ∀ i o, ops[i]? = some o → (τ (i + 1)).e = putE o.dst (val i) (τ i).e := ⟨fun i => (hv i).choose, fun i => (hv i).choose_spec⟩
 have t0 : τ 0 = ⟨e, H, b⟩ := by have := hτ 0; simp only [List.take_zero, evOps, Option.some.injEq] at this; exact this.symm
 have td : τ d = ⟨e1, H, b⟩ := by have := hτ d; rw [A.run] at this; simpa using this.symm
 have td1 : τ (d + 1) = ⟨e5, H10, b⟩ := by have := hτ (d + 1); rw [r1] at this; simpa using this.symm
 have td2 : τ (d + 2) = ⟨e4, H5, b⟩ := by have := hτ (d + 2); rw [r2] at this; simpa using this.symm
 have tk : ∀ {i j}, i ≤ j → (ops.take j).take i = ops.take i := fun {i j} h => by rw [List.take_take, Nat.min_eq_left h]
 have gt : ∀ {i j}, i < j → (ops.take j)[i]? = ops[i]? := fun {i j} h => by rw [List.getElem?_take, if_pos h]
 have lo : ∀ i, i ≤ d → (τ i).h = H := fun i hi => A.quiet i _ (by omega) (by rw [tk hi]; exact hτ i)
 have hb : ∀ i, (τ i).b = b := by
  intro i
  induction i with
  | zero => rw [t0]
  | succ i ih =>
   cases ho : ops[i]? with
   | none =>
    have e1 : ops.take (i + 1) = ops.take i := by
     have : ops.length ≤ i := List.getElem?_eq_none_iff.1 ho
     rw [List.take_of_length_le this, List.take_of_length_le (by omega)]
    have := hτ (i + 1)
    rw [e1, hτ i] at this
    simp only [Option.some.injEq] at this
    rw [← this, ih]
   | some o => rw [evOper_b (one ho (hτ i) (hτ (i + 1))), ih]
 refine ⟨d, d + 1, fun i => (τ i).e, val, fun x y => match x, y with | false, false => H | true, false => H10 | false, true => H01 | true, true => H5, by omega, by omega, by omega, hlen, by rw [t0], rfl, fun i o _ ho => hval i o ho, fun i o x y hi ho hx hy => ?_⟩
 have cs : i < d ∨ i = d ∨ i = d + 1 := by omega
 rcases cs with c | rfl | rfl
 ·rw [decide_eq_false (by omega), decide_eq_false (by omega), Bool.or_false, Bool.or_false]
  have all : ∀ H1, (∀ (i : Nat) (o : VOper) (q q' : St), (ops.take d)[i]? = some o → evOps pg.toCx (evF pg) ((ops.take d).take i) ⟨e, H, b⟩ = some q → evOps pg.toCx (evF pg) ((ops.take d).take (i + 1)) ⟨e, H, b⟩ = some q' → evOper pg.toCx (evF pg) o ⟨q.e, H1, b⟩ = some ⟨q'.e, H1, b⟩) → evOper pg.toCx (evF pg) o ⟨(τ i).e, H1, b⟩ = some ⟨(τ (i + 1)).e, H1, b⟩ := fun H1 hh =>
   hh i o _ _ (by rw [gt c]; exact ho) (by rw [tk (by omega)]; exact hτ i) (by rw [tk (by omega)]; exact hτ (i + 1))
  cases x <;> cases y
  ·have := one ho (hτ i) (hτ (i + 1))
   rw [show τ i = ⟨(τ i).e, (τ i).h, (τ i).b⟩ from rfl, show τ (i + 1) = ⟨(τ (i + 1)).e, (τ (i + 1)).h, (τ (i + 1)).b⟩ from rfl, lo i (by omega), lo (i + 1) (by omega), hb, hb] at this
   exact this
  ·exact all _ c01
  ·exact all _ c10
  ·exact all _ c11
 ·rw [hod] at ho; cases ho
  have hx := hx rfl
  subst hx
  simp only [td, td1]
  rw [decide_eq_false (show ¬ i = i + 1 by omega), Bool.or_false]
  cases y
  ·exact g1
  ·exact g4
 ·rw [hoz] at ho; cases ho
  have hy := hy rfl
  subst hy
  simp only [td1, td2]
  rw [decide_eq_false (show ¬ d + 1 = d by omega), Bool.or_false]
  cases x
  ·exact g3
  ·exact g2
variable {orc : Orc} (ho : OLe orc (evF pg))
include ho
theorem cBh_ok {b : Nat} {s0 : St} {d : Nat} {od : VOper} {H1 : Hp} : ∀ {m : Nat} {r pre : List VOper} {s q : St}, Bhd (pg := pg) b s0 d od H1 pre s.e → s.h = H1 → s.b = b → m ≤ r.length → cBh pg.toCx orc od.dst s0.h m r s = some q →
 ∃ e2, Bhd (pg := pg) b s0 d od H1 (pre ++ r.take m) e2 ∧ evOps pg.toCx (evF pg) (pre ++ r) s0 = some q
 | 0, r, pre, s, q, B, hh, hb, _, h => by
   refine ⟨s.e, by rw [List.take_zero, List.append_nil]; exact B, ?_⟩
   rw [evOps_app, B.run]
   subst hh; subst hb
   cases r with
   | nil => exact h
   | cons o r => exact evOps_mono ho h
 | m + 1, [], pre, s, q, B, hh, hb, hm, h => absurd hm (by simp)
 | m + 1, o :: r, pre, s, q, B, hh, hb, hm, h => by
   simp only [cBh] at h
   cases hy : evOper pg.toCx orc o s with
   | none => rw [hy] at h; cases h
   | some s1 =>
    rw [hy] at h
    have hx := evOper_mono ho hy
    simp only [Option.bind_some] at h
    split at h
    ·rename_i hc
     simp only [Bool.and_eq_true, Bool.or_eq_true] at hc
     have h1 : s1.h = s.h := hc.1.elim (fun p => quiet_h hx p) (fun p => eqHp_eq _ _ p)
     have hb1 := evOper_b hx
     subst hh; subst hb
     have hx' : evOper pg.toCx (evF pg) o ⟨s.e, s.h, s.b⟩ = some ⟨s1.e, s.h, s.b⟩ := by rw [show (⟨s.e, s.h, s.b⟩ : St) = s from rfl, hx, ← h1, ← hb1]
     have h2 : (∃ t, od.dst = some t ∧ t ∈ o.names) ∨ evOper pg.toCx (evF pg) o ⟨s.e, s0.h, s.b⟩ = some ⟨s1.e, s0.h, s.b⟩ := hc.2.imp namedB_t (fun p => evOper_mono ho (same_eq hy p))
     obtain ⟨e2, B2, h3⟩ := cBh_ok (m := m) (r := r) (pre := pre ++ [o]) (B.snoc hx' h2) h1 hb1 (by simpa using hm) h
     refine ⟨e2, ?_, ?_⟩
     ·rw [List.take_succ_cons]; rw [List.append_assoc] at B2; exact B2
     ·rw [List.append_assoc] at h3; exact h3
    ·cases h
structure GoI (pg : Pg) (s0 : St) (pre : List VOper) (acc : List (VOper × St × St)) (s : St) : Prop where
 h : s.h = s0.h
 b : s.b = s0.b
 draw : ∀ n r, evDraw pg.toCx (evF pg) (pre.length + n) (pre ++ r) s0 = evDraw pg.toCx (evF pg) n r s
 ahd : Ahd (pg := pg) s0.b s0 pre s.e (fun H1 P => P ∧ ∀ p ∈ acc, evOper pg.toCx (evF pg) p.1 ⟨p.2.1.e, H1, s0.b⟩ = some ⟨p.2.2.e, H1, s0.b⟩)
theorem accB_ok {H1 : Hp} {b : Nat} : ∀ {acc : List (VOper × St × St)}, (∀ p ∈ acc, evOper pg.toCx orc p.1 p.2.1 = some p.2.2 ∧ p.2.1.b = b) → accB pg.toCx orc H1 b acc = true → ∀ p ∈ acc, evOper pg.toCx (evF pg) p.1 ⟨p.2.1.e, H1, b⟩ = some ⟨p.2.2.e, H1, b⟩
 | [], _, _, p, hp => by cases hp
 | (o, s, q) :: r, ha, h, p, hp => by
   simp only [accB, Bool.and_eq_true] at h
   rcases List.mem_cons.1 hp with rfl | hp
   ·obtain ⟨h1, h2⟩ := ha _ (List.mem_cons_self ..)
    simp only at h1 h2 ⊢
    subst h2
    exact evOper_mono ho (same_eq h1 h.1)
   ·exact accB_ok (fun p hp => ha p (List.mem_cons_of_mem _ hp)) h.2 p hp
theorem cGo_ok {s0 : St} : ∀ {m : Nat} {r pre : List VOper} {acc} {s q : St}, GoI pg s0 pre acc s → (∀ p ∈ acc, evOper pg.toCx orc p.1 p.2.1 = some p.2.2 ∧ p.2.1.b = s0.b) → cGo pg.toCx orc acc m r s = some q → evDrw pg.toCx (evF pg) (pre.length + m) (pre ++ r) s0 = some q
 | 0, [], pre, acc, s, q, I, _, h => evDrw_of (by rw [I.draw]; first | exact h | exact evOps_mono ho h)
 | _ + 1, [], pre, acc, s, q, I, _, h => evDrw_of (by rw [I.draw]; first | exact h | exact evOps_mono ho h)
 | 0, _ :: _, pre, acc, s, q, I, _, h => evDrw_of (by rw [I.draw]; first | exact h | exact evOps_mono ho h)
 | m + 1, o :: r, pre, acc, s, q, I, ha, h => by
   simp only [cGo] at h
   cases hy : evOper pg.toCx orc o s with
   | none => rw [hy] at h; cases h
   | some s1 =>
    rw [hy] at h
    have hx := evOper_mono ho hy
    simp only [Option.bind_some] at h
    have hb1 := evOper_b hx
    split at h
    ·rename_i hq
     have h1 : s1.h = s.h := by
      rcases (Bool.or_eq_true _ _).mp hq with p | p
      ·exact quiet_h hx p
      ·exact eqHp_eq _ _ p
     split at h
     ·rename_i hd
      have hx' : evOper pg.toCx (evF pg) o ⟨s.e, s0.h, s0.b⟩ = some ⟨s1.e, s0.h, s0.b⟩ := by rw [← I.h, ← I.b, show (⟨s.e, s.h, s.b⟩ : St) = s from rfl, hx, ← h1, ← hb1]
      have J : GoI pg s0 (pre ++ [o]) ((o, s, s1) :: acc) s1 := by
       refine ⟨h1.trans I.h, hb1.trans I.b, fun n r => ?_, I.ahd.snocG hx' fun H1 P hc => ⟨hc.2 _ (List.mem_cons_self ..), hc.1, fun p hp => hc.2 p (List.mem_cons_of_mem _ hp)⟩⟩
       have := I.draw (n + 1) (o :: r)
       rw [List.length_append, List.length_singleton, List.append_assoc, show pre.length + 1 + n = pre.length + (n + 1) by omega]
       refine this.trans ?_
       simp only [evDraw, hx, Option.bind_some]
       rw [if_pos (by rw [h1, grew_self, hd]; rfl)]
      have := cGo_ok (m := m) (r := r) J (fun p hp => by
        rcases List.mem_cons.1 hp with rfl | hp
        ·exact ⟨hy, I.b⟩
        ·exact ha p hp) h
      rw [List.length_append, List.length_singleton, List.append_assoc, show pre.length + 1 + m = pre.length + (m + 1) by omega] at this
      exact this
     ·cases h
    ·split at h
     ·rename_i hg
      simp only [Bool.and_eq_true] at hg
      refine evDrw_of ?_
      rw [I.draw]
      simp only [evDraw, hx, Option.bind_some]
      rw [if_pos (by rw [grewB_t hg.1, hg.2]; rfl)]
      exact evDraw_mono ho (cDraw_ok h)
     ·have hrun := I.ahd.run
      have es : (⟨s.e, s0.h, s0.b⟩ : St) = s := by rw [← I.h, ← I.b]
      rw [es] at hrun
      have hpre := evOps_snoc hrun hx
      split at h
      ·rename_i q' hq'
       cases h
       split at hq'
       ·rename_i hc
        simp only [Bool.and_eq_true] at hc
        have hm := Nat.le_of_ble_eq_true hc.1
        have hchk := accB_ok ho ha (by rw [← I.b]; exact hc.2)
        have B0 : Bhd (pg := pg) s0.b s0 pre.length o s1.h (pre ++ [o]) s1.e := by
         refine ⟨by rw [hpre, ← I.b, ← hb1], by simp, fun i q h1 h2 hq => ?_, fun i p q q' h1 hp => ?_⟩
         ·simp only [List.length_append, List.length_singleton] at h2
          have : i = pre.length + 1 := by omega
          rw [this, List.take_of_length_le (by simp), hpre] at hq
          cases hq; rfl
         ·have := (List.getElem?_eq_some_iff.1 hp).1
          simp only [List.length_append, List.length_singleton] at this
          omega
        rw [I.h] at hq'
        obtain ⟨e2, B, hops⟩ := cBh_ok ho B0 rfl (hb1.trans I.b) hm hq'
        rw [List.append_assoc] at hops B
        have htk : (pre ++ o :: r).take (pre.length + (m + 1)) = pre ++ ([o] ++ r.take m) := by
         rw [List.take_append, List.take_of_length_le (by omega), Nat.add_sub_cancel_left]; rfl
        refine evDrw_iff.2 ⟨hops, .inr ?_⟩
        refine dirty_of (d := pre.length) (od := o) (e1 := s.e) (e2 := e2) (H1 := s1.h) (P := True) (chk := fun H1 P => P ∧ ∀ p ∈ acc, evOper pg.toCx (evF pg) p.1 ⟨p.2.1.e, H1, s0.b⟩ = some ⟨p.2.2.e, H1, s0.b⟩) rfl (by simp; omega) (by rw [List.getElem?_append_right (Nat.le_refl _), Nat.sub_self]; rfl) ?_ ⟨trivial, hchk⟩ (by omega) ?_ hops
        ·rw [List.take_left]; exact I.ahd
        ·rw [htk]; exact B
       ·cases hq'
      ·split at h
       ·rename_i hm1
        subst hm1
        unfold cZ at h
        split at h
        ·cases h
        ·rename_i z r' _
         split at h
         ·rename_i s2 s3 y2 y3
          split at h
          ·rename_i s4 y4
           split at h
           ·rename_i hc
            simp only [Bool.and_eq_true, Bool.or_eq_true, Option.isNone_iff_eq_none] at hc
            obtain ⟨d1, d2, d3, d4, d5, d6⟩ := hc
            have hd : ∀ {p : VOper} {a b c : Env} {x y : V}, a = putE p.dst x c → b = putE p.dst y c → (p.dst = none ∨ eqV (hdE a) (hdE b) = true) → a = b := by
             intro p a b c x y h1 h2 h3
             cases hp : p.dst with
             | none => rw [h1, h2, hp]; rfl
             | some d =>
              rw [hp] at h1 h2 h3
              rcases h3 with h3 | h3
              ·cases h3
              ·subst h1; subst h2
               have := eqV_eq _ _ h3
               simp only [putE, hdE] at this
               rw [this]
            have x2 := evOper_mono ho y2
            have x3 := evOper_mono ho y3
            have x4 := evOper_mono ho y4
            obtain ⟨v1, w1⟩ := evOper_e hx
            obtain ⟨v2, w2⟩ := evOper_e x2
            obtain ⟨v3, w3⟩ := evOper_e x3
            obtain ⟨v4, w4⟩ := evOper_e x4
            have q3 : s3.e = s2.e := hd w3 w2 d1
            have q4 : s4.e = s1.e := hd w4 w1 d2
            have q5 := eqHp_eq _ _ d3
            have b2 := evOper_b x2
            have b3 := evOper_b x3
            have b4 := evOper_b x4
            simp only at b3 b4
            have c1 := accB_ok ho (b := s.b) (acc := acc) (by rw [I.b]; exact ha) d4
            have c2 := accB_ok ho (b := s.b) (acc := acc) (by rw [I.b]; exact ha) d5
            have c3 := accB_ok ho (b := s.b) (acc := acc) (by rw [I.b]; exact ha) d6
            have hops : evOps pg.toCx (evF pg) (pre ++ o :: z :: r') s0 = some q := by
             have h3 := evOps_snoc hpre x2
             rw [List.append_assoc] at h3
             rw [show pre ++ o :: z :: r' = (pre ++ ([o] ++ [z])) ++ r' by simp, evOps_app, h3]
             exact evOps_mono ho h
            have eb : s0.b = s.b := I.b.symm
            refine evDrw_iff.2 ⟨hops, .inr ?_⟩
            refine dirtyZ_of (b := s0.b) (d := pre.length) (od := o) (oz := z) (e := s0.e) (H := s0.h) (H10 := s1.h) (H01 := s3.h) (H5 := s2.h) (e1 := s.e) (e4 := s2.e) (e5 := s1.e) (chk := fun H1 P => P ∧ ∀ p ∈ acc, evOper pg.toCx (evF pg) p.1 ⟨p.2.1.e, H1, s0.b⟩ = some ⟨p.2.2.e, H1, s0.b⟩) (by simp) (by rw [List.getElem?_append_right (Nat.le_refl _), Nat.sub_self]; rfl) (by rw [List.getElem?_append_right (by omega), Nat.add_sub_cancel_left]; rfl) (by rw [List.take_left]; exact I.ahd) ?_ ?_ ?_ ?_ ⟨trivial, by rw [eb]; exact c1⟩ ⟨trivial, by rw [eb]; exact c2⟩ ⟨trivial, by rw [eb]; exact c3⟩ hops
            ·rw [es, hx, eb, ← hb1]
            ·rw [eb, ← hb1, x2, ← b2]
            ·rw [eb, ← I.h, x3, ← q3, ← b3]
            ·rw [eb, x4, ← q4, ← q5, ← b4]
           ·cases h
          ·cases h
         ·cases h
       ·cases h
theorem cGo_drw {m : Nat} {ops : List VOper} {s q : St} (h : cGo pg.toCx orc [] m ops s = some q) : evDrw pg.toCx (evF pg) m ops s = some q := by
 have := cGo_ok ho (pre := []) (s0 := s) (acc := []) ⟨rfl, rfl, fun n r => by rw [List.length_nil, Nat.zero_add]; rfl, ⟨rfl, fun i q _ hq => by simp only [List.take_nil, evOps, Option.some.injEq] at hq; rw [← hq], fun H1 P hP => ⟨hP.1, fun i o q q' ho => by simp at ho⟩⟩⟩ (fun p hp => by cases hp) h
 rwa [List.length_nil, Nat.zero_add] at this
end
def cC (cx : Cx) (orc : Orc) (lp : Lp) : VCode → St → Option (Ex × St)
 | .skip, s => some (.nrm, s)
 | .reg ops, s => (evOps cx orc ops s).map fun s => (.nrm, s)
 | .draw m ops, s => (cGo cx orc [] m ops s).map fun s => (.nrm, s)
 | .seq a b, s => sq (cC cx orc lp a s) fun s' => cC cx orc lp b s'
 | .cond c a b, s => match evO cx s.e c with
   | .d (.bool true) => cC cx orc lp a s
   | .d (.bool false) => cC cx orc lp b s
   | _ => none
 | .block id b, s => match cC cx orc lp b s with
   | some (.exit i, s') => if i = id then some (.nrm, s') else some (.exit i, s')
   | r => r
 | .scope b, s => cC cx orc lp b s
 | .loop ks b, s => match cC cx orc lp b ⟨keepE ks s.e, s.h, s.h.length⟩ with
   | some (.nrm, s') => lp ks b ⟨cut s.h.length (keepE ks s'.e), s'.h.take s.h.length, s.b⟩
   | some (x, s') => some (x, ⟨s'.e, s'.h, s.b⟩)
   | none => none
 | .exit i, s => some (.exit i, s)
 | .ret, s => some (.ret, s)
 | .newrow sz t, s => match getE s.e t with
   | .nils => if 0 < sz then some (.nrm, ⟨(t, .row s.h.length 0) :: s.e, s.h ++ [.row sz []], s.b⟩) else none
   | _ => none
 | .bindrow sz t off, s => match getE s.e t with
   | .ptr id o => match s.h[id]? with
     | some (.box c) => match c[o + off]? with
       | some .nils => if s.b ≤ id ∧ 0 < sz then some (.nrm, ⟨s.e, s.h.set id (.box (c.set (o + off) (.row s.h.length 0))) ++ [.row sz []], s.b⟩) else none
       | _ => none
     | _ => none
   | _ => none
 | .mkrow sz, s => if 0 < sz then some (.nrm, ⟨s.e, s.h ++ [.row sz []], s.b⟩) else none
 | .bindto t off k, s => match getE s.e t with
   | .ptr id o => match s.h[id]? with
     | some (.box c) => match c[o + off]?, s.h[id - k]? with
       | some .nils, some (.row _ []) => if 0 < k ∧ k ≤ id ∧ s.b ≤ id - k then some (.nrm, ⟨s.e, s.h.set id (.box (c.set (o + off) (.row (id - k) 0))), s.b⟩) else none
       | _, _ => none
     | _ => none
   | _ => none
 | .freeze t, s => match getE s.e t with
   | .arr id _ _ => match s.h[id]? with
     | some (.box c) => match allD c with
       | some ds => some (.nrm, ⟨s.e, s.h.set id (.frz ds), s.b⟩)
       | none => none
     | _ => none
   | .row id len => match s.h[id]? with
     | some (.row _ l) => if l.length = len then some (.nrm, ⟨(t, .d (.sl l)) :: s.e, s.h, s.b⟩) else none
     | _ => none
   | _ => none
theorem cC_ok {pg : Pg} {orc : Orc} {lp : Lp} (ho : OLe orc (evF pg)) (hl : LLe lp (evL pg)) : ∀ {c : VCode} {s : St} {r : Ex × St}, cC pg.toCx orc lp c s = some r → evC pg.toCx (evF pg) (evL pg) c s = some r := by
 intro c
 induction c with
 | reg ops =>
  intro s r h; simp only [cC] at h; simp only [evC]
  cases hx : evOps pg.toCx orc ops s with
  | none => rw [hx] at h; cases h
  | some q => rw [hx] at h; rw [evOps_mono ho hx]; exact h
 | draw m ops =>
  intro s r h; simp only [cC] at h; simp only [evC]
  cases hx : cGo pg.toCx orc [] m ops s with
  | none => rw [hx] at h; cases h
  | some q => rw [hx] at h; rw [cGo_drw ho hx]; exact h
 | seq a b iha ihb =>
  intro s r h; simp only [cC] at h; simp only [evC]
  cases hx : cC pg.toCx orc lp a s with
  | none => rw [hx] at h; cases h
  | some q =>
   obtain ⟨x, s'⟩ := q
   rw [hx] at h; rw [iha hx]
   cases x <;> first | exact ihb h | exact h
 | cond c a b iha ihb =>
  intro s r h; simp only [cC] at h; simp only [evC]
  split at h
  ·rename_i hc; rw [hc]; exact iha h
  ·rename_i hc; rw [hc]; exact ihb h
  ·cases h
 | block id b ih =>
  intro s r h; simp only [cC] at h; simp only [evC]
  cases hx : cC pg.toCx orc lp b s with
  | none => rw [hx] at h; cases h
  | some q => rw [hx] at h; rw [ih hx]; exact h
 | scope b ih => intro s r h; simp only [cC] at h; simp only [evC]; exact ih h
 | loop k b ih =>
  intro s r h; simp only [cC] at h; simp only [evC]
  cases hx : cC pg.toCx orc lp b ⟨keepE k s.e, s.h, s.h.length⟩ with
  | none => rw [hx] at h; cases h
  | some q =>
   obtain ⟨x, s'⟩ := q
   rw [hx] at h; rw [ih hx]
   cases x <;> simp only at h ⊢ <;> first | exact hl _ _ _ _ h | exact h
 | _ => intro s r h; exact h
def cF (pg : Pg) (kn orc : Orc) (lp : Lp) (f : Nat) (args : List V) (h : Hp) : Option (V × Hp) :=
 match kn f args h with
 | some r => some r
 | none => match pg.tbl f with
   | some (.code vf) => if args.length = vf.np then
       bare (undL 0 args && !vf.keep) h fun h => match cC pg.toCx orc lp vf.body ⟨enterE args, h, h.length⟩ with
       | some (.nrm, s) | some (.ret, s) => leave vf h.length s
       | _ => none
     else none
   | some (.prim F) => F args h
   | none => none
def cAt (pg : Pg) (kn : Orc) : Nat → Orc × Lp
 | 0 => (fun _ _ _ => none, fun _ _ _ => none)
 | n + 1 => (cF pg kn (cAt pg kn n).1 (cAt pg kn n).2, fun ks b s => cC pg.toCx (cAt pg kn n).1 (cAt pg kn n).2 (.loop ks b) s)
theorem cAt_ok {pg : Pg} {kn : Orc} (hk : OLe kn (evF pg)) : ∀ n, OLe (cAt pg kn n).1 (evF pg) ∧ LLe (cAt pg kn n).2 (evL pg)
 | 0 => ⟨fun _ _ _ _ h => by simp [cAt] at h, fun _ _ _ _ h => by simp [cAt] at h⟩
 | n + 1 => by
   obtain ⟨h1, h2⟩ := cAt_ok hk n
   refine ⟨fun f a h r hr => ?_, fun k b s r hr => ?_⟩
   ·change cF pg kn (cAt pg kn n).1 (cAt pg kn n).2 f a h = some r at hr
    unfold cF at hr
    split at hr
    ·rename_i q hq; cases hr; exact hk _ _ _ _ hq
    ·split at hr
     ·rename_i vf ht
      rw [evF_code ht]
      split at hr
      ·rename_i hn
       rw [if_pos hn]
       refine bare_le (fun h r hr => ?_) hr
       unfold bodyF
       cases hx : cC pg.toCx (cAt pg kn n).1 (cAt pg kn n).2 vf.body ⟨enterE a, h, h.length⟩ with
       | none => rw [hx] at hr; cases hr
       | some q =>
        rw [hx] at hr
        have e1 : ev pg vf.body ⟨enterE a, h, h.length⟩ = some q := cC_ok h1 h2 hx
        rw [e1]; exact hr
      ·cases hr
     ·rename_i F ht; rw [evF_prim ht]; exact hr
     ·cases hr
   ·rw [evL_eq]
    exact cC_ok h1 h2 hr
theorem evF_comp {pg : Pg} {kn : Orc} (hk : OLe kn (evF pg)) (n : Nat) {f : Nat} {a : List V} {h : Hp} {r : V × Hp} (e : (cAt pg kn n).1 f a h = some r) : evF pg f a h = some r := (cAt_ok hk n).1 _ _ _ _ e
end Go.Vm
namespace Go.Vm.Ite
open Go.Vm.Ip
set_option maxRecDepth 100000
set_option linter.unusedVariables false
def sA : S := [83]
def jA : Its := ⟨[⟨sA, [⟨[97], [105, 54, 52]⟩, ⟨[98], [66, 111, 120, 60, 83, 62]⟩]⟩], [], [⟨[109, 97, 105, 110], [], [], [40, 41], 8⟩]⟩
def jB : Its := ⟨[⟨sA, [⟨[97], sA⟩]⟩], [], [⟨[109, 97, 105, 110], [], [], [40, 41], 5⟩]⟩
theorem jA_gets {y : S} (h : Gets jA sA y) : y = [105, 54, 52] ∨ y = [66, 111, 120, 60, 83, 62] := by
 have hh : (heldM jA sA).1 = [[105, 54, 52], [66, 111, 120, 60, 83, 62]] := by decide
 induction h with
 | one h => rw [hh] at h; simpa using h
 | step _ h ih =>
  rcases ih with e | e
  ·rw [e, show (heldM jA [105, 54, 52]).1 = [] by decide] at h; cases h
  ·rw [e, show (heldM jA [66, 111, 120, 60, 83, 62]).1 = [] by decide] at h; cases h
theorem endJA : endB jA sA = false := endB_f fun h => by
  rcases jA_gets h with e | e
  ·exact absurd e (by decide)
  ·exact absurd e (by decide)
theorem endJB : endB jB sA = true := endB_t (.one (by decide))
theorem fineJA : Fine jA := ⟨by decide, by decide, by decide, by decide, by decide, by decide⟩
theorem fineJB : Fine jB := ⟨by decide, by decide, by decide, by decide, by decide, by decide⟩
theorem smallJA : Small jA := ⟨by decide, by decide, by decide, by decide⟩
theorem smallJB : Small jB := ⟨by decide, by decide, by decide, by decide⟩
def mapB (h : Hp) (a : Nat) (l : List (D × D)) : Bool := match h[a]? with | some (.map m) => eqPs m l | _ => false
theorem mapB_t {h : Hp} {a : Nat} {l : List (D × D)} (x : mapB h a l = true) : h[a]? = some (.map l) := by
 unfold mapB at x
 split at x
 ·rename_i m e; rw [e, eqPs_eq _ _ x]
 ·cases x
def finB (x : Its) (p : Nat) (h : Hp) : Bool := match h[p]? with
 | some (.box [.mp a, .mp b, .mp c]) => mapB h a (finM (nS x)) && (mapB h b (finM (nE x)) && (mapB h c (finM (nF x)) && (decide (a ≠ b) && (decide (a ≠ c) && decide (b ≠ c)))))
 | _ => false
theorem finB_t {x : Its} {p : Nat} {h : Hp} (e : finB x p h = true) : FinAt x p h := by
 unfold finB at e
 split at e
 ·rename_i a b c hp
  simp only [Bool.and_eq_true, decide_eq_true_eq] at e
  obtain ⟨h1, h2, h3, h4, h5, h6⟩ := e
  exact ⟨a, b, c, hp, mapB_t h1, mapB_t h2, mapB_t h3, h4, h5, h6⟩
 ·cases e
def endK : Orc := fun f args h => if f = 55 then match args with
  | [.d d, .ptr p 0, .d (.str s)] => if s = sA then (if eqD d jA.D && finB jA p h then some (boo false, h) else if eqD d jB.D && finB jB p h then some (boo true, h) else none) else none
  | _ => none else none
section
variable {fx : Nat → Option Obj}
theorem endK_ok : OLe endK (evF (pgL fx FT)) := by
 intro f a h r e
 unfold endK at e
 split at e
 ·rename_i hf
  subst hf
  split at e
  ·split at e
   ·rename_i hs
    subst hs
    split at e
    ·rename_i hc
     simp only [Bool.and_eq_true] at hc
     cases e
     rw [eqD_eq _ _ hc.1, ← endJA]
     exact end3_ev fineJA smallJA (finB_t hc.2) _
    ·split at e
     ·rename_i hc
      simp only [Bool.and_eq_true] at hc
      cases e
      rw [eqD_eq _ _ hc.1, ← endJB]
      exact end3_ev fineJB smallJB (finB_t hc.2) _
     ·cases e
   ·cases e
  ·cases e
 ·cases e
theorem speakC : (cAt (pgL fx FT) endK 300).1 n_law14_speaks [] [] = some (boo true, []) := by kernel_rfl
theorem speaksC_ev (H : Hp) : evF (pgL fx FT) n_law14_speaks [] H = some (boo true, H) := by
 have h0 := evF_comp (endK_ok (fx := fx)) 300 (speakC (fx := fx))
 rw [evF_code (t_law14_speaks (F := FT)), if_pos (show ([] : List V).length = F8.np from rfl)] at h0 ⊢
 have hb : (undL 0 ([] : List V) && !F8.keep) = true := rfl
 rw [hb] at h0 ⊢
 simp only [bare, Option.map_eq_some_iff, Prod.mk.injEq] at h0 ⊢
 obtain ⟨q, h1, h2, _⟩ := h0
 exact ⟨q, h1, h2, trivial⟩
end
end Go.Vm.Ite
namespace Go.Vm.Ite
open Go.Vm.Ip
set_option maxRecDepth 10000
set_option linter.unusedVariables false
set_option linter.unusedSimpArgs false
section
variable {fx : Nat → Option Obj}
theorem checks_ev (a b : Its) (ha : Fine a) (hb : Fine b) (H : Hp) : evF (pgL fx FT) n_law14_ItemsChecks [.d a.D, .d b.D] H = some (boo true, H) := by
 refine evF_wq (t_law14_ItemsChecks (F := FT)) rfl rfl ?_ H
 have e1 := fun H => right14_ev (fx := fx) (F := FT) a ha H
 have e2 := fun H => chk3_ev (fx := fx) a ha H
 have e3 := fun H => same_ev (fx := fx) (F := FT) H a b ha
 have e4 := fun H => rSame_ev (fx := fx) (F := FT) H a b ha
 have e5 := fun H => same_ev (fx := fx) (F := FT) H a a ha
 have e6 := fun H => speaksC_ev (fx := fx) H
 rw [sameB_refl] at e5
 have e1 := fun H => (e1 H).trans (by rw [r14_eq])
 cases hc : chkB a <;> cases hs : sameB a b <;> rw [hc] at e1 e2 <;> rw [hs] at e3 e4
 all_goals
  repeat' (first | refine run ⟨?_⟩ | refine ca (e1 _) ?_ | refine ca (e2 _) ?_ | refine ca (e3 _) ?_ | refine ca (e4 _) ?_ | refine ca (e5 _) ?_ | refine ca (e6 _) ?_ | fail)
  exact rfl
end
end Go.Vm.Ite
