import Derived.Test.YtocpgkeiakjicaaGreatIteW4
import Derived.Test.YtocpgkeiakjicaaGreatVmClone
set_option linter.unusedSimpArgs false
set_option linter.unusedVariables false
namespace Go.Vm.Ite
open Go.Vm.Ip
set_option maxRecDepth 10000
section
variable {fx : Nat → Option Obj} {F : Nat → Option VFun}
theorem hasp_ev (s p : S) (H : Hp) : evF (pgL fx F) n_internal_stringslite_HasPrefix [str s, str p] H = some (boo (preB s p), H) := by
 refine evF_wq (t_internal_stringslite_HasPrefix (F := F)) rfl rfl ?_ H
 unfold preB
 by_cases h : p.length ≤ s.length
 ·have h' : ((p.length : Nat) : Int) ≤ ((s.length : Nat) : Int) := by omega
  have hn : (0 : Int) ≤ ((p.length : Nat) : Int) := by omega
  have hb : (0 : Nat) ≤ ((p.length : Nat) : Int).toNat ∧ ((p.length : Nat) : Int).toNat ≤ s.length := ⟨Nat.zero_le _, h⟩
  repeat' (first | refine run ⟨?_⟩ | refine And.intro hn ?_ | refine And.intro hb ?_ | fail)
  rw [decide_eq_true h, Bool.true_and]; exact rfl
 ·have h' : ¬ ((p.length : Nat) : Int) ≤ ((s.length : Nat) : Int) := by omega
  refine run ⟨?_⟩
  rw [decide_eq_false h]; exact rfl
theorem cutp_ev (s p : S) (H : Hp) : evF (pgL fx F) n_internal_stringslite_CutPrefix [str s, str p] H = some (.tup [str (if preB s p then s.drop p.length else s), boo (preB s p)], H) := by
 refine evF_wq (t_internal_stringslite_CutPrefix (F := F)) rfl rfl ?_ H
 have e1 := hasp_ev (fx := fx) (F := F) s p
 cases h : preB s p with
 | false =>
  rw [h] at e1
  repeat' (first | refine run ⟨?_⟩ | refine ca (e1 _) ?_ | fail)
  exact rfl
 | true =>
  rw [h] at e1
  have hle : p.length ≤ s.length := by simp only [preB, Bool.and_eq_true, decide_eq_true_eq] at h; exact h.1
  have hn : (0 : Int) ≤ ((p.length : Nat) : Int) := by omega
  have hb : ((p.length : Nat) : Int).toNat ≤ s.length ∧ s.length ≤ s.length := ⟨hle, Nat.le_refl _⟩
  repeat' (first | refine run ⟨?_⟩ | refine ca (e1 _) ?_ | refine And.intro hn ?_ | refine And.intro hb ?_ | fail)
  rw [if_pos rfl, List.take_length]; exact rfl
theorem scutp_ev (s p : S) (H : Hp) : evF (pgL fx F) n_strings_CutPrefix [str s, str p] H = some (.tup [str (if preB s p then s.drop p.length else s), boo (preB s p)], H) := by
 refine evF_wq (t_strings_CutPrefix (F := F)) rfl rfl ?_ H
 have e1 := cutp_ev (fx := fx) (F := F) s p
 repeat' (first | refine run ⟨?_⟩ | refine ca (e1 _) ?_ | fail)
 exact rfl
theorem hass_ev (s q : S) (hs : s.length ≤ mx) (H : Hp) : evF (pgL fx F) n_internal_stringslite_HasSuffix [str s, str q] H = some (boo (sufB s q), H) := by
 refine evF_wq (t_internal_stringslite_HasSuffix (F := F)) rfl rfl ?_ H
 unfold sufB
 by_cases h : q.length ≤ s.length
 ·have h' : ((q.length : Nat) : Int) ≤ ((s.length : Nat) : Int) := by omega
  have hs' : s.length ≤ 140737488355328 := hs
  have hw : IntKind.i64.wrap (((s.length : Nat) : Int) - ((q.length : Nat) : Int)) = ((s.length - q.length : Nat) : Int) := by rw [i64w (by omega)]; omega
  have hn : (0 : Int) ≤ IntKind.i64.wrap (((s.length : Nat) : Int) - ((q.length : Nat) : Int)) := by rw [hw]; omega
  have hb : (IntKind.i64.wrap (((s.length : Nat) : Int) - ((q.length : Nat) : Int))).toNat ≤ s.length ∧ s.length ≤ s.length := by rw [hw]; omega
  repeat' (first | refine run ⟨?_⟩ | refine And.intro hn ?_ | refine And.intro hb ?_ | fail)
  rw [hw, decide_eq_true h, Bool.true_and, List.take_length]; exact rfl
 ·have h' : ¬ ((q.length : Nat) : Int) ≤ ((s.length : Nat) : Int) := by omega
  refine run ⟨?_⟩
  rw [decide_eq_false h]; exact rfl
theorem cuts_ev (s q : S) (hs : s.length ≤ mx) (H : Hp) : evF (pgL fx F) n_internal_stringslite_CutSuffix [str s, str q] H = some (.tup [str (if sufB s q then s.take (s.length - q.length) else s), boo (sufB s q)], H) := by
 refine evF_wq (t_internal_stringslite_CutSuffix (F := F)) rfl rfl ?_ H
 have e1 := hass_ev (fx := fx) (F := F) s q hs
 cases h : sufB s q with
 | false =>
  rw [h] at e1
  repeat' (first | refine run ⟨?_⟩ | refine ca (e1 _) ?_ | fail)
  exact rfl
 | true =>
  rw [h] at e1
  have hle : q.length ≤ s.length := by simp only [sufB, Bool.and_eq_true, decide_eq_true_eq] at h; exact h.1
  have hs' : s.length ≤ 140737488355328 := hs
  have hw : IntKind.i64.wrap (((s.length : Nat) : Int) - ((q.length : Nat) : Int)) = ((s.length - q.length : Nat) : Int) := by rw [i64w (by omega)]; omega
  have hn : (0 : Int) ≤ IntKind.i64.wrap (((s.length : Nat) : Int) - ((q.length : Nat) : Int)) := by rw [hw]; omega
  have hb : (0 : Nat) ≤ (IntKind.i64.wrap (((s.length : Nat) : Int) - ((q.length : Nat) : Int))).toNat ∧ (IntKind.i64.wrap (((s.length : Nat) : Int) - ((q.length : Nat) : Int))).toNat ≤ s.length := by rw [hw]; omega
  repeat' (first | refine run ⟨?_⟩ | refine ca (e1 _) ?_ | refine And.intro hn ?_ | refine And.intro hb ?_ | fail)
  rw [if_pos rfl, hw]; exact rfl
theorem scuts_ev (s q : S) (hs : s.length ≤ mx) (H : Hp) : evF (pgL fx F) n_strings_CutSuffix [str s, str q] H = some (.tup [str (if sufB s q then s.take (s.length - q.length) else s), boo (sufB s q)], H) := by
 refine evF_wq (t_strings_CutSuffix (F := F)) rfl rfl ?_ H
 have e1 := cuts_ev (fx := fx) (F := F) s q hs
 repeat' (first | refine run ⟨?_⟩ | refine ca (e1 _) ?_ | fail)
 exact rfl
end
end Go.Vm.Ite
namespace Go.Vm.Ite
open Go.Vm.Ip
set_option maxRecDepth 10000
section
variable {fx : Nat → Option Obj} {F : Nat → Option VFun}
theorem named_s (x : Its) (s : S) : evF (pgL fx F) n_items_finder_named [.ptr 3 0, str s] (FH x) = some (boo (kn x s), FH x) := by
 refine evF_wqOn (t_items_finder_named (F := F)) rfl rfl rfl ?_
 have e1 := find0_s (fx := fx) (F := F) x s
 have e2 := find1_s (fx := fx) (F := F) x s
 unfold kn
 revert e1 e2
 cases known (nS x) s <;> cases known (nE x) s <;> intro e1 e2
 all_goals
  repeat' (first | refine run ⟨?_⟩ | refine ca (e1) ?_ | refine ca (e2) ?_ | fail)
  exact rfl
theorem right_s (x : Its) : ∀ (f : Nat) (s : S), s.length < f → s.length ≤ mx → evF (pgL fx F) n_items_finder_right [.ptr 3 0, str s, boo false] (FH x) = some (boo (rightB (kn x) s), FH x)
 | 0, s, h, _ => by omega
 | f + 1, s, h, hm => by
   have ih := fun (t : S) (h1 : t.length < f) (h2 : t.length ≤ mx) => right_s x f t h1 h2
   have eb := scutp_ev (fx := fx) (F := F) s [66, 111, 120, 60]
   rw [show ([66, 111, 120, 60] : S) = boxT from rfl] at eb
   have en := named_s (fx := fx) (F := F) x s
   rw [rightB_eq]
   refine evF_wqOn (t_items_finder_right (F := F)) rfl rfl rfl ?_
   cases hp : preB s boxT with
   | true =>
    have hl := preB_len hp
    have hl : 4 ≤ s.length := hl
    rw [hp] at eb
    have ec := scuts_ev (fx := fx) (F := F) (s.drop 4) [62] (by simp only [List.length_drop]; omega)
    have ei := ih ((s.drop 4).take ((s.drop 4).length - 1)) (by simp only [List.length_take, List.length_drop]; omega) (by simp only [List.length_take, List.length_drop]; omega)
    cases hq : sufB (s.drop 4) [62] with
    | true =>
     rw [hq] at ec
     cases hr : rightB (kn x) ((s.drop 4).take ((s.drop 4).length - 1)) <;> rw [hr] at ei
     all_goals
      repeat' (first | refine run ⟨?_⟩ | refine ca (eb _) ?_ | refine ca (ec _) ?_ | refine ca (ei) ?_ | fail)
      exact rfl
    | false =>
     rw [hq] at ec
     repeat' (first | refine run ⟨?_⟩ | refine ca (eb _) ?_ | refine ca (ec _) ?_ | fail)
     exact rfl
   | false =>
    rw [hp] at eb
    by_cases h1 : s = [105, 54, 52]
    ·rw [if_neg (by simp), show decide (s = i64T) = true from decide_eq_true h1, Bool.true_or, Bool.true_or, Bool.true_or]
     repeat' (first | refine run ⟨?_⟩ | refine ca (eb _) ?_ | fail)
     exact rfl
    by_cases h2 : s = [98, 111, 111, 108]
    ·rw [if_neg (by simp), show decide (s = boolT) = true from decide_eq_true h2, Bool.or_true, Bool.true_or, Bool.true_or]
     repeat' (first | refine run ⟨?_⟩ | refine ca (eb _) ?_ | fail)
     exact rfl
    by_cases h3 : s = [40, 41]
    ·rw [if_neg (by simp), show decide (s = unitT) = true from decide_eq_true h3, Bool.or_true, Bool.true_or]
     repeat' (first | refine run ⟨?_⟩ | refine ca (eb _) ?_ | fail)
     exact rfl
    rw [if_neg (by simp), show decide (s = i64T) = false from decide_eq_false h1, show decide (s = boolT) = false from decide_eq_false h2, show decide (s = unitT) = false from decide_eq_false h3]
    cases hr : kn x s <;> rw [hr] at en
    all_goals
     repeat' (first | refine run ⟨?_⟩ | refine ca (eb _) ?_ | refine ca (en) ?_ | fail)
     exact rfl
theorem rightf_s (x : Its) (s : S) (hm : s.length ≤ mx) : evF (pgL fx F) n_items_finder_right [.ptr 3 0, str s, boo false] (FH x) = some (boo (rightB (kn x) s), FH x) := right_s x (s.length + 1) s (Nat.lt_succ_self _) hm
theorem rightt_s (x : Its) (s : S) (hm : s.length ≤ mx) : evF (pgL fx F) n_items_finder_right [.ptr 3 0, str s, boo true] (FH x) = some (boo (rightR (kn x) s), FH x) := by
 have e1 := scutp_ev (fx := fx) (F := F) s [38, 109, 117, 116, 32]
 rw [show ([38, 109, 117, 116, 32] : S) = mutT from rfl] at e1
 have e2 := scutp_ev (fx := fx) (F := F) s [38]
 have eb := scutp_ev (fx := fx) (F := F) s [66, 111, 120, 60]
 rw [show ([66, 111, 120, 60] : S) = boxT from rfl] at eb
 have en := named_s (fx := fx) (F := F) x s
 unfold rightR
 refine evF_wqOn (t_items_finder_right (F := F)) rfl rfl rfl ?_
 cases h1 : preB s mutT with
 | true =>
  rw [h1] at e1
  have er := rightf_s (fx := fx) (F := F) x (s.drop 5) (by simp only [List.length_drop]; omega)
  rw [if_pos rfl]
  repeat' (first | refine run ⟨?_⟩ | refine ca (e1 _) ?_ | refine ca (er) ?_ | fail)
  exact rfl
 | false =>
 rw [h1] at e1
 cases h2 : preB s [38] with
 | true =>
  rw [h2] at e2
  have er := rightf_s (fx := fx) (F := F) x (s.drop 1) (by simp only [List.length_drop]; omega)
  rw [if_neg (by simp), if_pos rfl]
  repeat' (first | refine run ⟨?_⟩ | refine ca (e1 _) ?_ | refine ca (e2 _) ?_ | refine ca (er) ?_ | fail)
  exact rfl
 | false =>
 rw [h2] at e2
 rw [if_neg (by simp), if_neg (by simp), rightB_eq]
 cases hp : preB s boxT with
 | true =>
  have hl : 4 ≤ s.length := preB_len hp
  rw [hp] at eb
  have ec := scuts_ev (fx := fx) (F := F) (s.drop 4) [62] (by simp only [List.length_drop]; omega)
  have ei := rightf_s (fx := fx) (F := F) x ((s.drop 4).take ((s.drop 4).length - 1)) (by simp only [List.length_take, List.length_drop]; omega)
  cases hq : sufB (s.drop 4) [62] with
  | true =>
   rw [hq] at ec
   cases hr : rightB (kn x) ((s.drop 4).take ((s.drop 4).length - 1)) <;> rw [hr] at ei
   all_goals
    repeat' (first | refine run ⟨?_⟩ | refine ca (e1 _) ?_ | refine ca (e2 _) ?_ | refine ca (eb _) ?_ | refine ca (ec _) ?_ | refine ca (ei) ?_ | fail)
    exact rfl
  | false =>
   rw [hq] at ec
   repeat' (first | refine run ⟨?_⟩ | refine ca (e1 _) ?_ | refine ca (e2 _) ?_ | refine ca (eb _) ?_ | refine ca (ec _) ?_ | fail)
   exact rfl
 | false =>
  rw [hp] at eb
  by_cases h1 : s = [105, 54, 52]
  ·rw [if_neg (by simp), show decide (s = i64T) = true from decide_eq_true h1, Bool.true_or, Bool.true_or, Bool.true_or]
   repeat' (first | refine run ⟨?_⟩ | refine ca (e1 _) ?_ | refine ca (e2 _) ?_ | refine ca (eb _) ?_ | fail)
   exact rfl
  by_cases h2 : s = [98, 111, 111, 108]
  ·rw [if_neg (by simp), show decide (s = boolT) = true from decide_eq_true h2, Bool.or_true, Bool.true_or, Bool.true_or]
   repeat' (first | refine run ⟨?_⟩ | refine ca (e1 _) ?_ | refine ca (e2 _) ?_ | refine ca (eb _) ?_ | fail)
   exact rfl
  by_cases h3 : s = [40, 41]
  ·rw [if_neg (by simp), show decide (s = unitT) = true from decide_eq_true h3, Bool.or_true, Bool.true_or]
   repeat' (first | refine run ⟨?_⟩ | refine ca (e1 _) ?_ | refine ca (e2 _) ?_ | refine ca (eb _) ?_ | fail)
   exact rfl
  rw [if_neg (by simp), show decide (s = i64T) = false from decide_eq_false h1, show decide (s = boolT) = false from decide_eq_false h2, show decide (s = unitT) = false from decide_eq_false h3]
  cases hr : kn x s <;> rw [hr] at en
  all_goals
   repeat' (first | refine run ⟨?_⟩ | refine ca (e1 _) ?_ | refine ca (e2 _) ?_ | refine ca (eb _) ?_ | refine ca (en) ?_ | fail)
   exact rfl
end
end Go.Vm.Ite
namespace Go.Vm.Ite
open Go.Vm.Ip
set_option maxRecDepth 10000
def strs (l : List S) : V := .d (.sl (l.map .str))
theorem gFl {l : List Fld} {i : Nat} (h : i < l.length) : 0 ≤ (i : Int) ∧ (l.map Fld.D)[(i : Int).toNat]? = some (l.getD i default).D := by
 refine ⟨by omega, ?_⟩
 rw [Int.toNat_natCast, List.getElem?_map, List.getElem?_eq_getElem h]
 simp [List.getD_eq_getElem?_getD, List.getElem?_eq_getElem h]
theorem take_succ_getD {α : Type} {l : List α} {i : Nat} {d : α} (h : i < l.length) : l.take (i + 1) = l.take i ++ [l.getD i d] := by
 rw [List.take_add_one, List.getElem?_eq_getElem h]
 simp [List.getD_eq_getElem?_getD, List.getElem?_eq_getElem h]
theorem takeT {l : List Fld} {i : Nat} (h : i < l.length) : (l.take (i + 1)).map (fun f => D.str f.t) = (l.take i).map (fun f => D.str f.t) ++ [D.str (l.getD i default).t] := by
  rw [take_succ_getD h, List.map_append]; rfl
theorem someT_succ {l : List Fld} {i : Nat} (h : i < l.length) : someT (l.take (i + 1)) = if (l.getD i default).t = [] then someT (l.take i) else someT (l.take i) ++ [(l.getD i default).t] := by
 unfold someT
 rw [take_succ_getD (d := default) h, List.map_append, List.filter_append]
 generalize l.getD i default = f
 by_cases e : f.t = [] <;> simp [e]
section
variable {fx : Nat → Option Obj} {F : Nat → Option VFun}
theorem strs_map (l : List Fld) : l.map (fun f => D.str f.t) = (l.map Fld.t).map D.str := by rw [List.map_map]; rfl
set_option maxHeartbeats 1000000 in
theorem held_s (x : Its) (hx : Fine x) (s : S) : evF (pgL fx F) n_items_held [.d x.D, .ptr 3 0, str s] (FH x) = some (.tup [strs (heldM x s).1, boo (heldM x s).2], FH x) := by
 apply up
 have hp : ∀ (k : Nat) (r : V), evF (pgL fx F0) n_items_table_find [.ptr 3 k, str s] (FH x) = some (r, FH x) → r.sh (toPl [0, 1, 2, 3] (FH x ++ [IB x, .row 1 []]).length) = r → evF (pgL fx F0) n_items_table_find [.ptr 3 k, str s] [.map (finM (nS x)), .map (finM (nE x)), .map (finM (nF x)), .box [.mp 0, .mp 1, .mp 2], IB x, .row 1 []] = some (r, [.map (finM (nS x)), .map (finM (nE x)), .map (finM (nF x)), .box [.mp 0, .mp 1, .mp 2], IB x, .row 1 []]) := fun k r h hr => by
   have := evF_at (mv fx) [0, 1, 2, 3] (X := FH x ++ [IB x, .row 1 []]) (A := [.ptr 3 k, str s]) h rfl rfl rfl rfl rfl
   rw [hr] at this
   exact this
 have e1 := hp 0 _ (find0_s x s) rfl
 have e2 := hp 1 _ (find1_s x s) rfl
 clear hp
 have hS : (nS x).length = x.ss.length := by simp [nS]
 have hE : (nE x).length = x.es.length := by simp [nE]
 have gS : ∀ i, pos (nS x) s = some i → i < x.ss.length := fun i h => by have := pos_lt h; omega
 have gE : ∀ i, pos (nE x) s = some i → i < x.es.length := fun i h => by have := pos_lt h; omega
 unfold heldM
 unfold loc known at e1 e2
 revert e1 e2 gS gE
 cases pos (nS x) s with
 | some i =>
  intro e1 e2 gS _
  dsimp only at e1 ⊢
  have hi := gS i rfl
  have pi := gN hi
  have hl : (x.ss.getD i default).fs.length ≤ 4398046511104 := by
   have : x.ss.getD i default ∈ x.ss := by simp [List.getD_eq_getElem?_getD, List.getElem?_eq_getElem hi]
   exact (hx.sf _ this).2.1
  revert pi hl
  generalize x.ss.getD i default = y
  obtain ⟨yn, fs⟩ := y
  intro pi hl
  dsimp only at hl ⊢
  refine evF_wqOn (t_items_held (F := F)) rfl rfl rfl ?_
  repeat' (first | refine run ⟨?_⟩ | refine ca (e1) ?_ | refine pickD pi ?_ | fail)
  refine wq_loop (α := Nat) (fun j => fs.length - j) (fun j => [(8, .row 5 j), (31, .d (fldsD fs)), (32, i64 fs.length), (33, i64 j)]) (fun j => [.map (finM (nS x)), .map (finM (nE x)), .map (finM (nF x)), .box [.mp 0, .mp 1, .mp 2], IB x, .row 1 ((fs.take j).map fun f => .str f.t)]) (fun j => j ≤ fs.length) ?_ 0 (Nat.zero_le _) (by show [_, _, _, _] = _; rw [List.length_map]; rfl) rfl
  intro j hj
  by_cases h : j < fs.length
  ·have h' : (j : Int) < (fs.length : Int) := by omega
   have pj := gFl h
   have ht := takeT h
   have ha : 1 = 1 ∧ ((fs.take j).map fun f => D.str f.t).length = j ∧ roomy (j + 1) 16 := ⟨rfl, by simp; omega, by constructor <;> omega⟩
   revert pj ht
   generalize fs.getD j default = f
   intro pj ht
   repeat' (first | refine run ⟨?_⟩ | refine pickD pj ?_ | refine And.intro ⟨rfl, Nat.one_pos⟩ ?_ | refine And.intro ha ?_ | fail)
   exact ⟨j + 1, by omega, by omega, by rw [i64w (by omega)] <;> rfl, by rw [ht] <;> rfl⟩
  ·have h' : ¬ (j : Int) < (fs.length : Int) := by omega
   obtain rfl : j = fs.length := by omega
   have hlen : ((fs.take fs.length).map fun f => D.str f.t).length = fs.length := by simp
   have hv : V.tup [.d (.sl ((fs.take fs.length).map fun f => D.str f.t)), boo false] = .tup [strs (fs.map Fld.t), boo false] := by rw [List.take_length, strs_map]; rfl
   repeat' (first | refine run ⟨?_⟩ | refine And.intro hlen ?_ | refine And.intro hv ?_ | fail)
   exact rfl
 | none =>
  intro e1
  dsimp only at e1
  cases pos (nE x) s with
  | none =>
   intro e2 _ _
   refine evF_wqOn (t_items_held (F := F)) rfl rfl rfl ?_
   repeat' (first | refine run ⟨?_⟩ | refine ca (e1) ?_ | refine ca (e2) ?_ | fail)
   exact rfl
  | some i =>
   intro e2 _ gE
   dsimp only at e2 ⊢
   have hi := gE i rfl
   have pi := gN hi
   have hl : (x.es.getD i default).fs.length ≤ 4398046511104 := by
    have : x.es.getD i default ∈ x.es := by simp [List.getD_eq_getElem?_getD, List.getElem?_eq_getElem hi]
    exact (hx.ef _ this).2.1
   revert pi hl
   generalize x.es.getD i default = y
   obtain ⟨yn, fs⟩ := y
   intro pi hl
   dsimp only at hl ⊢
   refine evF_wqOn (t_items_held (F := F)) rfl rfl rfl ?_
   repeat' (first | refine run ⟨?_⟩ | refine ca (e1) ?_ | refine ca (e2) ?_ | refine pickD pi ?_ | fail)
   refine wq_loop (α := Nat) (fun j => fs.length - j) (fun j => [(8, .row 5 (someT (fs.take j)).length), (58, .d (fldsD fs)), (59, i64 fs.length), (60, i64 j)]) (fun j => [.map (finM (nS x)), .map (finM (nE x)), .map (finM (nF x)), .box [.mp 0, .mp 1, .mp 2], IB x, .row 1 ((someT (fs.take j)).map .str)]) (fun j => j ≤ fs.length) ?_ 0 (Nat.zero_le _) (by show [_, _, _, _] = _; rw [List.length_map]; rfl) rfl
   intro j hj
   by_cases h : j < fs.length
   ·have h' : (j : Int) < (fs.length : Int) := by omega
    have pj := gFl h
    have ht := someT_succ h
    have hsl := someT_len (fs.take j)
    simp only [List.length_take] at hsl
    have ha : 1 = 1 ∧ ((someT (fs.take j)).map D.str).length = (someT (fs.take j)).length ∧ roomy ((someT (fs.take j)).length + 1) 16 := ⟨rfl, by simp, by constructor <;> omega⟩
    revert pj ht
    generalize fs.getD j default = f
    intro pj ht
    by_cases hf : f.t = []
    ·rw [if_pos hf] at ht
     have hf' : (!decide (f.t = [])) = false := by simp [hf]
     repeat' (first | refine run ⟨?_⟩ | refine pickD pj ?_ | fail)
     exact ⟨j + 1, by omega, by omega, by rw [i64w (by omega), ht] <;> rfl, by rw [ht] <;> rfl⟩
    ·rw [if_neg hf] at ht
     have hf' : (!decide (f.t = [])) = true := by simp [hf]
     repeat' (first | refine run ⟨?_⟩ | refine pickD pj ?_ | refine And.intro ⟨rfl, Nat.one_pos⟩ ?_ | refine And.intro ha ?_ | fail)
     exact ⟨j + 1, by omega, by omega, by rw [i64w (by omega), ht, List.length_append] <;> rfl, by rw [ht, List.map_append] <;> rfl⟩
   ·have h' : ¬ (j : Int) < (fs.length : Int) := by omega
    obtain rfl : j = fs.length := by omega
    have hlen : ((someT (fs.take fs.length)).map D.str).length = (someT (fs.take fs.length)).length := by simp
    have hv : V.tup [.d (.sl ((someT (fs.take fs.length)).map D.str)), boo true] = .tup [strs (someT fs), boo true] := by rw [List.take_length]; rfl
    repeat' (first | refine run ⟨?_⟩ | refine And.intro hlen ?_ | refine And.intro hv ?_ | fail)
    exact rfl
end
end Go.Vm.Ite
namespace Go.Vm.Ite
open Go.Vm.Ip
open Go.Vm.Lex (nameB)
set_option maxRecDepth 10000
section
variable {fx : Nat → Option Obj} {F : Nat → Option VFun}
theorem rightr_s (x : Its) (s : S) (ref : Bool) (hm : s.length ≤ mx) : evF (pgL fx F) n_items_finder_right [.ptr 3 0, str s, boo ref] (FH x) = some (boo (rt (kn x) ref s), FH x) := by
 cases ref
 ·exact rightf_s x s hm
 ·exact rightt_s x s hm
theorem takeN {l : List Fld} {i : Nat} (h : i < l.length) : (l.take (i + 1)).map Fld.n = (l.take i).map Fld.n ++ [(l.getD i default).n] := by
 rw [take_succ_getD h, List.map_append]; rfl
set_option maxHeartbeats 2000000 in
theorem listed_s (x : Its) (l : List Fld) (hl : l.length ≤ mf) (hf : ∀ f ∈ l, f.n.length ≤ mx ∧ f.t.length ≤ mx) (most : Int) (ref bare : Bool) : evF (pgL fx F) n_items_finder_listed [.ptr 3 0, .d (fldsD l), i64 most, boo ref, boo bare] (FH x) = some (boo (lstB (rt (kn x) ref) bare [] l && decide ((l.length : Int) ≤ most)), FH x) := by
 apply up
 have hl' : l.length ≤ 4398046511104 := hl
 refine evF_wqOn (t_items_finder_listed (F := F)) rfl rfl rfl ?_
 refine run ⟨?_⟩
 refine wq_loop (α := Nat) (fun j => l.length - j) (fun j => [(0, .ptr 3 0), (1, .d (fldsD l)), (2, i64 most), (3, boo ref), (4, boo bare), (11, .mp 4), (15, .d (fldsD l)), (16, i64 l.length), (17, i64 j)]) (fun j => [.map (finM (nS x)), .map (finM (nE x)), .map (finM (nF x)), .box [.mp 0, .mp 1, .mp 2], .map (seenM ((l.take j).map Fld.n))]) (fun j => j ≤ l.length ∧ lstB (rt (kn x) ref) bare [] l = lstB (rt (kn x) ref) bare ((l.take j).map Fld.n) (l.drop j)) ?_ 0 ⟨Nat.zero_le _, rfl⟩ (by show [_, _, _, _, _, _, _, _, _] = _; rw [List.length_map]; rfl) rfl
 rintro j ⟨hj, hinv⟩
 rw [hinv]
 by_cases h : j < l.length
 ·have h' : (j : Int) < (l.length : Int) := by omega
  have pj := gFl h
  have hn := takeN h
  have hd := drop_getD (d := default) h
  have hfm := hf (l.getD j default) (by simp [List.getD_eq_getElem?_getD, List.getElem?_eq_getElem h])
  have h1 := seenM_keys ((l.take j).map Fld.n)
  have h2 := seenM_find (l.getD j default).n ((l.take j).map Fld.n)
  have h3 := seenM_set (l.getD j default).n ((l.take j).map Fld.n)
  have er : evF (pgL fx F0) n_items_finder_right [.ptr 3 0, str (l.getD j default).t, boo ref] [.map (finM (nS x)), .map (finM (nE x)), .map (finM (nF x)), .box [.mp 0, .mp 1, .mp 2], .map (seenM ((l.take j).map Fld.n)), .box [str (l.getD j default).n, str (l.getD j default).t]] = some (boo (rt (kn x) ref (l.getD j default).t), [.map (finM (nS x)), .map (finM (nE x)), .map (finM (nF x)), .box [.mp 0, .mp 1, .mp 2], .map (seenM ((l.take j).map Fld.n)), .box [str (l.getD j default).n, str (l.getD j default).t]]) :=
   evF_at (mv fx) [0, 1, 2, 3] (rightr_s x _ ref hfm.2) rfl rfl rfl rfl rfl
  revert pj hn hd hfm h2 h3 er h1
  generalize l.getD j default = f
  obtain ⟨n, t⟩ := f
  intro pj hn hd hfm h1 h2 h3 er
  dsimp only at hn hfm h2 h3 er
  have en := name_ev (fx := fx) (F := F0) (s := n) (hs := Nat.le_trans hfm.1 (by decide))
  rw [hd]
  simp only [lstB]
  cases c1 : nameB n with
  | false =>
   rw [c1] at en
   repeat' (first | refine run ⟨?_⟩ | refine pickD pj ?_ | refine ca (en _) ?_ | fail)
   exact rfl
  | true =>
  rw [c1] at en
  by_cases c2 : n ∈ (l.take j).map Fld.n
  ·rw [if_pos c2] at h2
   rw [decide_eq_true c2]
   repeat' (first | refine run ⟨?_⟩ | refine pickD pj ?_ | refine ca (en _) ?_ | refine mg h1 h2 ?_ | fail)
   exact rfl
  rw [if_neg c2] at h2
  rw [decide_eq_false c2]
  have h3 := h3 c2
  cases c3 : rt (kn x) ref t with
  | true =>
   rw [c3] at er
   repeat' (first | refine run ⟨?_⟩ | refine pickD pj ?_ | refine ca (en _) ?_ | refine mg h1 h2 ?_ | refine ca (er) ?_ | refine And.intro h1 ?_ | fail)
   exact ⟨j + 1, ⟨by omega, by rw [hn]; rfl⟩, by omega, by rw [i64w (by omega)] <;> rfl, by rw [hn, ← h3] <;> rfl⟩
  | false =>
  rw [c3] at er
  cases bare with
  | false =>
   repeat' (first | refine run ⟨?_⟩ | refine pickD pj ?_ | refine ca (en _) ?_ | refine mg h1 h2 ?_ | refine ca (er) ?_ | fail)
   exact rfl
  | true =>
  by_cases c4 : t = []
  ·rw [decide_eq_true c4]
   have c5 : (!decide (t = [])) = false := by simp [c4]
   repeat' (first | refine run ⟨?_⟩ | refine pickD pj ?_ | refine ca (en _) ?_ | refine mg h1 h2 ?_ | refine ca (er) ?_ | refine And.intro h1 ?_ | fail)
   exact ⟨j + 1, ⟨by omega, by rw [hn]; rfl⟩, by omega, by rw [i64w (by omega)] <;> rfl, by rw [hn, ← h3] <;> rfl⟩
  ·rw [decide_eq_false c4]
   have c5 : (!decide (t = [])) = true := by simp [c4]
   repeat' (first | refine run ⟨?_⟩ | refine pickD pj ?_ | refine ca (en _) ?_ | refine mg h1 h2 ?_ | refine ca (er) ?_ | fail)
   exact rfl
 ·have h' : ¬ (j : Int) < (l.length : Int) := by omega
  obtain rfl : j = l.length := by omega
  rw [List.drop_length, show lstB (rt (kn x) ref) bare ((l.take l.length).map Fld.n) [] = true from rfl, Bool.true_and]
  have hv : boo (decide ((((l.map Fld.D).length : Nat) : Int) ≤ most)) = boo (decide ((l.length : Int) ≤ most)) := by rw [List.length_map]
  repeat' (first | refine run ⟨?_⟩ | refine And.intro hv ?_ | fail)
  exact rfl
end
end Go.Vm.Ite
namespace Go.Vm.Ite
open Go.Vm.Ip
open Go.Vm.Lex (nameB)
set_option maxRecDepth 10000
section
variable {fx : Nat → Option Obj} {F : Nat → Option VFun}
theorem takeFN {l : List Fnc} {i : Nat} (h : i < l.length) : (l.take (i + 1)).map Fnc.n = (l.take i).map Fnc.n ++ [(l.getD i default).n] := by
 rw [take_succ_getD h, List.map_append]; rfl
theorem takeFD {l : List Fnc} {i : Nat} (h : i < l.length) : (l.take (i + 1)).map Fnc.d = (l.take i).map Fnc.d ++ [(l.getD i default).d] := by
 rw [take_succ_getD h, List.map_append]; rfl
abbrev FNH (x : Its) (a : List S) (b : List Int) : Hp := [.map (finM (nS x)), .map (finM (nE x)), .map (finM (nF x)), .box [.mp 0, .mp 1, .mp 2], IB x, .map (seenM a), .map (nodM b)]
abbrev FB (f : Fnc) : Ob := .box [str f.n, .d (fldsD f.ps), .d (.sl (f.ms.map .bool)), str f.r, i64 f.d]
set_option maxHeartbeats 4000000 in
theorem fns_s (x : Its) (hx : Fine x) : evF (pgL fx F) n_items_fns [.d x.D, .ptr 3 0] (FH x) = some (boo (fnsB (kn x) x), FH x) := by
 apply up
 have hl' : x.fs.length ≤ 140737488355328 := hx.fs
 obtain ⟨l, hl⟩ : ∃ l, l = x.fs := ⟨_, rfl⟩
 unfold fnsB
 have hff := hx.ff
 refine evF_wqOn (t_items_fns (F := F)) rfl rfl rfl ?_
 refine run ⟨?_⟩
 refine wq_loop (α := Nat) (fun j => l.length - j) (fun j => [(1, .ptr 3 0), (2, .ptr 4 0), (5, .mp 5), (6, .mp 6), (15, .d (.sl (l.map Fnc.D))), (16, i64 l.length), (17, i64 j)]) (fun j => FNH x ([printT, readT, panicT] ++ (l.take j).map Fnc.n) ((l.take j).map Fnc.d)) (fun j => j ≤ l.length ∧ fncB (kn x) [printT, readT, panicT] [] l = fncB (kn x) ([printT, readT, panicT] ++ (l.take j).map Fnc.n) ((l.take j).map Fnc.d) (l.drop j)) ?_ 0 ⟨Nat.zero_le _, rfl⟩ (by rw [hl]; show [_, _, _, _, _, _, _] = _; rw [List.length_map]; rfl) rfl
 rw [← hl] at hl' hff ⊢
 rintro j ⟨hj, hinv⟩
 rw [hinv]
 by_cases h : j < l.length
 ·have h' : (j : Int) < (l.length : Int) := by omega
  have pj := gF h
  have hn := takeFN h
  have hnd := takeFD h
  have hd := drop_getD (d := default) h
  have hfm := hff (l.getD j default) (by simp [List.getD_eq_getElem?_getD, List.getElem?_eq_getElem h])
  revert pj hn hd hnd hfm
  generalize l.getD j default = f
  generalize hA : [printT, readT, panicT] ++ (l.take j).map Fnc.n = A
  generalize hB : (l.take j).map Fnc.d = B
  intro pj hn hnd hd hfm
  have h1 := seenM_keys A
  have h2 := seenM_find f.n A
  have h3 := seenM_set f.n A
  have k1 := nodM_keys B
  have k2 := nodM_find f.d B
  have k3 := nodM_set f.d B
  have el : evF (pgL fx F0) n_items_finder_listed [.ptr 3 0, .d (fldsD f.ps), i64 6, boo true, boo false] (FNH x A B ++ [FB f]) = some (boo (lstB (rt (kn x) true) false [] f.ps && decide ((f.ps.length : Int) ≤ 6)), FNH x A B ++ [FB f]) :=
   evF_at (mv fx) [0, 1, 2, 3] (listed_s x f.ps hfm.2.2.2.1 hfm.2.2.2.2.1 6 true false) rfl rfl rfl rfl rfl
  have er : evF (pgL fx F0) n_items_finder_right [.ptr 3 0, str f.r, boo true] (FNH x A B ++ [FB f]) = some (boo (rightR (kn x) f.r), FNH x A B ++ [FB f]) :=
   evF_at (mv fx) [0, 1, 2, 3] (rightt_s x f.r hfm.2.1) rfl rfl rfl rfl rfl
  have en := name_ev (fx := fx) (F := F0) (s := f.n) (hs := Nat.le_trans hfm.1 (by decide))
  rw [hd]
  simp only [fncB]
  cases c1 : nameB f.n with
  | false =>
   rw [c1] at en
   repeat' (first | refine run ⟨?_⟩ | refine pickD pj ?_ | refine ca (en _) ?_ | fail)
   exact rfl
  | true =>
  rw [c1] at en
  by_cases c2 : f.n ∈ A
  ·rw [if_pos c2] at h2
   rw [decide_eq_true c2]
   repeat' (first | refine run ⟨?_⟩ | refine pickD pj ?_ | refine ca (en _) ?_ | refine mg h1 h2 ?_ | fail)
   exact rfl
  rw [if_neg c2] at h2
  rw [decide_eq_false c2]
  have h3 := h3 c2
  have lms : (f.ms.map D.bool).length = f.ms.length := List.length_map ..
  have lps : (f.ps.map Fld.D).length = f.ps.length := List.length_map ..
  by_cases c3 : f.ms.length = f.ps.length
  ·rw [decide_eq_true c3]
   have d3 : (!decide (((f.ms.map D.bool).length : Int) = ((f.ps.map Fld.D).length : Int))) = false := by rw [lms, lps, c3]; simp
   cases c4 : lstB (rt (kn x) true) false [] f.ps && decide ((f.ps.length : Int) ≤ 6) with
   | false =>
    rw [c4] at el
    repeat' (first | refine run ⟨?_⟩ | refine pickD pj ?_ | refine ca (en _) ?_ | refine mg h1 h2 ?_ | refine ca (el) ?_ | fail)
    exact rfl
   | true =>
   rw [c4] at el
   cases c5 : rightR (kn x) f.r with
   | false =>
    rw [c5] at er
    repeat' (first | refine run ⟨?_⟩ | refine pickD pj ?_ | refine ca (en _) ?_ | refine mg h1 h2 ?_ | refine ca (el) ?_ | refine ca (er) ?_ | fail)
    exact rfl
   | true =>
   rw [c5] at er
   by_cases c6 : f.d < 0
   ·rw [decide_eq_true c6]
    repeat' (first | refine run ⟨?_⟩ | refine pickD pj ?_ | refine ca (en _) ?_ | refine mg h1 h2 ?_ | refine ca (el) ?_ | refine ca (er) ?_ | fail)
    exact rfl
   rw [decide_eq_false c6]
   by_cases c7 : f.d ∈ B
   ·rw [if_pos c7] at k2
    rw [decide_eq_true c7]
    repeat' (first | refine run ⟨?_⟩ | refine pickD pj ?_ | refine ca (en _) ?_ | refine mg h1 h2 ?_ | refine ca (el) ?_ | refine ca (er) ?_ | refine mg k1 k2 ?_ | fail)
    exact rfl
   rw [if_neg c7] at k2
   rw [decide_eq_false c7]
   have k3 := k3 c7
   repeat' (first | refine run ⟨?_⟩ | refine pickD pj ?_ | refine ca (en _) ?_ | refine mg h1 h2 ?_ | refine ca (el) ?_ | refine ca (er) ?_ | refine mg k1 k2 ?_ | refine And.intro h1 ?_ | refine And.intro k1 ?_ | fail)
   refine ⟨j + 1, ⟨by omega, by rw [hn, hnd, ← List.append_assoc, hA]; rfl⟩, by omega, by rw [i64w (by omega)] <;> rfl, by rw [hn, hnd, ← List.append_assoc, hA, FNH, ← h3, ← k3] <;> rfl⟩
  ·rw [decide_eq_false c3]
   have d3 : (!decide (((f.ms.map D.bool).length : Int) = ((f.ps.map Fld.D).length : Int))) = true := by rw [lms, lps]; simp; omega
   repeat' (first | refine run ⟨?_⟩ | refine pickD pj ?_ | refine ca (en _) ?_ | refine mg h1 h2 ?_ | fail)
   exact rfl
 ·have h' : ¬ (j : Int) < (l.length : Int) := by omega
  obtain rfl : j = l.length := by omega
  rw [List.drop_length, show fncB (kn x) ([printT, readT, panicT] ++ (l.take l.length).map Fnc.n) ((l.take l.length).map Fnc.d) [] = true from rfl, Bool.true_and]
  generalize [printT, readT, panicT] ++ (l.take l.length).map Fnc.n = A
  generalize (l.take l.length).map Fnc.d = B
  have e2 : evF (pgL fx F0) n_items_table_find [.ptr 3 2, str mainT] (FNH x A B) = some (.tup [i64 (loc (nF x) mainT), boo (known (nF x) mainT)], FNH x A B) :=
   evF_at (mv fx) [0, 1, 2, 3] (find2_s x mainT) rfl rfl rfl rfl rfl
  have hlen : (nF x).length = x.fs.length := by simp [nF]
  have hg : ∀ i, pos (nF x) mainT = some i → i < x.fs.length := fun i h => by have := pos_lt h; omega
  unfold mainB
  unfold loc known at e2
  revert e2 hg
  cases pos (nF x) mainT with
  | none =>
   intro e2 _
   repeat' (first | refine run ⟨?_⟩ | refine ca (e2) ?_ | fail)
   exact rfl
  | some i =>
   intro e2 hg
   dsimp only at e2 ⊢
   have pi := gF (hg i rfl)
   revert pi
   generalize x.fs.getD i default = y
   intro pi
   have hv : ((y.ps.map Fld.D).length : Int) = (y.ps.length : Int) := by rw [List.length_map]
   by_cases c1 : y.ps.length = 0
   ·have c1' : (((y.ps.map Fld.D).length : Nat) : Int) = 0 := by omega
    rw [decide_eq_true c1, Bool.true_and]
    repeat' (first | refine run ⟨?_⟩ | refine ca (e2) ?_ | refine pickD pi ?_ | fail)
    exact rfl
   ·have c1' : ¬ (((y.ps.map Fld.D).length : Nat) : Int) = 0 := by omega
    rw [decide_eq_false c1, Bool.false_and]
    repeat' (first | refine run ⟨?_⟩ | refine ca (e2) ?_ | refine pickD pi ?_ | fail)
    exact rfl
end
end Go.Vm.Ite
namespace Go.Vm.Ite
open Go.Vm.Ip
set_option maxRecDepth 10000
def SzD (v : Int × Int) : V := .d (.agg [.int .i64 v.1, .int .i64 v.2])
abbrev SZB (v : Int × Int) : Ob := .box [i64 v.1, i64 v.2]
abbrev SH (x : Its) (d : List (S × Int × Int)) : Hp := [.map (finM (nS x)), .map (finM (nE x)), .map (finM (nF x)), .box [.mp 0, .mp 1, .mp 2], .map (szM d)]
theorem gS {l : List S} {i : Nat} (h : i < l.length) : 0 ≤ (i : Int) ∧ (l.map D.str)[(i : Int).toNat]? = some (.str (l.getD i [])) := by
 refine ⟨by omega, ?_⟩
 rw [Int.toNat_natCast, List.getElem?_map, List.getElem?_eq_getElem h]
 simp [List.getD_eq_getElem?_getD, List.getElem?_eq_getElem h]
theorem fold_succ {α : Type} {g : α → S → α} {l : List S} {j : Nat} {a : α} (h : j < l.length) : (l.take (j + 1)).foldl g a = g ((l.take j).foldl g a) (l.getD j []) := by
 rw [take_succ_getD (d := []) h, List.foldl_append]; rfl
theorem held_len {x : Its} (hx : Fine x) (s : S) : (heldM x s).1.length ≤ 4398046511104 := by
 unfold heldM
 have hS : (nS x).length = x.ss.length := by simp [nS]
 have hE : (nE x).length = x.es.length := by simp [nE]
 split
 ·rename_i i hi
  have h := pos_lt hi
  have : x.ss.getD i default ∈ x.ss := by simp [List.getD_eq_getElem?_getD, List.getElem?_eq_getElem (show i < x.ss.length by omega)]
  have := (hx.sf _ this).2.1
  rw [List.length_map]; exact this
 ·split
  ·rename_i i hi
   have h := pos_lt hi
   have : x.es.getD i default ∈ x.es := by simp [List.getD_eq_getElem?_getD, List.getElem?_eq_getElem (show i < x.es.length by omega)]
   have := (hx.ef _ this).2.1
   exact Nat.le_trans (someT_len _) this
  ·exact Nat.zero_le _
section
variable {fx : Nat → Option Obj}
set_option maxHeartbeats 4000000 in
theorem sized_s (x : Its) (hx : Fine x) (N : Nat) (hN : N ≤ 1000000) : ∀ (f : Nat) (s : S), deepOk x f s → f ≤ N → ∀ d, SzOk x N d → ∃ r H2, evF (pgL fx F0) n_items_sized [.d x.D, .ptr 3 0, str s, .mp 4] (SH x d) = some (r, H2) ∧ r = SzD (szF x f s) ∧ ∃ d', SzOk x N d' ∧ H2 = SH x d'
 | 0, _, h, _, _, _ => h.elim
 | f + 1, s, hdeep, hfN, d, hd => by
   have ih := fun (y : S) (hy : y ∈ (heldM x s).1) (d : List (S × Int × Int)) (hd : SzOk x N d) => sized_s x hx N hN f y (hdeep y hy) (by omega) d hd
   refine evF_wqOnE (t_items_sized (F := F0)) rfl rfl rfl ?_
   rcases szM_find s d with hf | ⟨w, p, hm, hf⟩
   ·have hend : ∀ d, SzOk x N d → ∀ v, v = szF x (f + 1) s → ∃ d', SzOk x N d' ∧ mset (.str s) (.agg [.int .i64 v.1, .int .i64 v.2]) (szM d) = szM d' := fun d hd v hv => by
      obtain ⟨d', h1, h2⟩ := szM_set s v.1 v.2 d
      refine ⟨d', fun q hq => ?_, h1⟩
      rcases h2 q hq with h | h
      ·exact hd q h
      ·rw [h]; exact ⟨deepOk_le hdeep hfN, by rw [show (s, v.1, v.2).2 = v from rfl, show (s, v.1, v.2).1 = s from rfl, hv]; exact (szF_le hdeep hfN).symm⟩
    have eh : evF (pgL fx F0) n_items_held [.d x.D, .ptr 3 0, str s] (SH x d ++ [IB x, SZB (0, 0), SZB (0, 0)]) = some (.tup [strs (heldM x s).1, boo (heldM x s).2], SH x d ++ [IB x, SZB (0, 0), SZB (0, 0)]) :=
     evF_at (mv fx) [0, 1, 2, 3] (held_s x hx s) rfl rfl rfl rfl rfl
    have e1 : evF (pgL fx F0) n_items_table_find [.ptr 3 0, str s] (SH x d ++ [IB x, SZB (0, 0), SZB (0, 0), SZB (1, 1)]) = some (.tup [i64 (loc (nS x) s), boo (known (nS x) s)], SH x d ++ [IB x, SZB (0, 0), SZB (0, 0), SZB (1, 1)]) :=
     evF_at (mv fx) [0, 1, 2, 3] (find0_s x s) rfl rfl rfl rfl rfl
    rw [szF] at *
    have hlen : (heldM x s).1.length ≤ 4398046511104 := held_len hx s
    have hb := szF_bound x f
    revert ih eh hlen hend hdeep
    generalize (heldM x s).1 = l
    cases (heldM x s).2 with
    | true =>
     intro _ ih hend eh hlen
     simp only [if_true] at hend ⊢
     repeat' (first | refine run ⟨?_⟩ | refine mg (szM_keys _) hf ?_ | refine ca (eh) ?_ | refine ca (e1) ?_ | fail)
     refine wq_loop (α := Nat × List (S × Int × Int)) (fun a => l.length - a.1) (fun a => [(1, .ptr 3 0), (2, str s), (3, .mp 4), (4, .ptr 5 0), (8, .ptr 6 0), (13, .ptr 8 0), (48, strs l), (49, i64 l.length), (50, i64 a.1)]) (fun a => SH x a.2 ++ [IB x, SZB (0, 0), SZB (0, 0), SZB ((l.take a.1).foldl (fun a y => addE a (szF x f y)) (1, 1))]) (fun a => a.1 ≤ l.length ∧ SzOk x N a.2) ?_ (0, d) ⟨Nat.zero_le _, hd⟩ (by show [_, _, _, _, _, _, _, _, _] = _; rw [List.length_map] <;> rfl) rfl
     rintro ⟨j, d2⟩ ⟨hj, hd2⟩
     dsimp only at hj hd2
     by_cases h : j < l.length
     ·have h' : (j : Int) < (l.length : Int) := by omega
      have pj := gS h
      obtain ⟨r, H2, hev, hr, d3, hd3, hH⟩ := ih (l.getD j []) (by simp [List.getD_eq_getElem?_getD, List.getElem?_eq_getElem h]) d2 hd2
      subst hr hH
      have ha := addE_fold hb (by omega) (l.take j) (1, 1) (by decide) (by show (1 : Int) ≤ _; omega) (by decide) (by decide)
      have hs := fold_succ (g := fun a y => addE a (szF x f y)) (a := (1, 1)) h
      have hv := hb (l.getD j [])
      have ei : evF (pgL fx F0) n_items_sized [.d x.D, .ptr 3 0, str (l.getD j []), .mp 4] (SH x d2 ++ [IB x, SZB (0, 0), SZB (0, 0), SZB ((l.take j).foldl (fun a y => addE a (szF x f y)) (1, 1))]) = some (SzD (szF x f (l.getD j [])), SH x d3 ++ [IB x, SZB (0, 0), SZB (0, 0), SZB ((l.take j).foldl (fun a y => addE a (szF x f y)) (1, 1))]) :=
        evF_at (mv fx) [0, 1, 2, 3, 4] hev rfl rfl rfl rfl rfl
      revert pj ha hs hv ei
      generalize (l.take j).foldl (fun a y => addE a (szF x f y)) (1, 1) = A
      generalize l.getD j [] = y
      generalize szF x f y = v
      intro pj ha hs hv ei
      repeat' (first | refine run ⟨?_⟩ | refine pickD pj ?_ | refine ca (ei) ?_ | fail)
      refine ⟨(j + 1, d3), ⟨by show j + 1 ≤ _; omega, hd3⟩, by show _ - (j + 1) < _ - j; omega, by rw [i64w (by omega)] <;> rfl, ?_⟩
      dsimp only
      rw [hs, i64w (by omega), i64w (by omega)]; rfl
     ·have h' : ¬ (j : Int) < (l.length : Int) := by omega
      obtain rfl : j = l.length := by omega
      rw [List.take_length]
      obtain ⟨d4, g1, g2⟩ := hend d2 hd2 _ rfl
      revert g2
      generalize l.foldl (fun a y => addE a (szF x f y)) (1, 1) = A
      intro g2
      repeat' (first | refine run ⟨?_⟩ | refine And.intro (szM_keys _) ?_ | fail)
      exact ⟨d4, g1, by show _ = [_, _, _, _, Ob.map (szM d4)]; rw [← g2]; rfl⟩
    | false =>
     intro _ ih hend eh hlen
     simp only [Bool.false_eq_true, if_false] at hend ⊢
     cases ck : known (nS x) s with
     | true =>
      rw [ck] at e1
      simp only [ck, if_true] at hend ⊢
      repeat' (first | refine run ⟨?_⟩ | refine mg (szM_keys _) hf ?_ | refine ca (eh) ?_ | refine ca (e1) ?_ | fail)
      refine wq_loop (α := Nat × List (S × Int × Int)) (fun a => l.length - a.1) (fun a => [(1, .ptr 3 0), (2, str s), (3, .mp 4), (4, .ptr 5 0), (8, .ptr 6 0), (13, .ptr 8 0), (77, strs l), (78, i64 l.length), (79, i64 a.1)]) (fun a => SH x a.2 ++ [IB x, SZB (0, 0), SZB (0, 0), SZB ((l.take a.1).foldl (fun a y => addS a (szF x f y)) (0, 1))]) (fun a => a.1 ≤ l.length ∧ SzOk x N a.2) ?_ (0, d) ⟨Nat.zero_le _, hd⟩ (by show [_, _, _, _, _, _, _, _, _] = _; rw [List.length_map] <;> rfl) rfl
      rintro ⟨j, d2⟩ ⟨hj, hd2⟩
      dsimp only at hj hd2
      by_cases h : j < l.length
      ·have h' : (j : Int) < (l.length : Int) := by omega
       have pj := gS h
       obtain ⟨r, H2, hev, hr, d3, hd3, hH⟩ := ih (l.getD j []) (by simp [List.getD_eq_getElem?_getD, List.getElem?_eq_getElem h]) d2 hd2
       subst hr hH
       have ha := addS_fold hb (l.take j) (0, 1) (by decide) (by decide) (by decide) (by decide)
       have hs := fold_succ (g := fun a y => addS a (szF x f y)) (a := (0, 1)) h
       have hv := hb (l.getD j [])
       have ei : evF (pgL fx F0) n_items_sized [.d x.D, .ptr 3 0, str (l.getD j []), .mp 4] (SH x d2 ++ [IB x, SZB (0, 0), SZB (0, 0), SZB ((l.take j).foldl (fun a y => addS a (szF x f y)) (0, 1))]) = some (SzD (szF x f (l.getD j [])), SH x d3 ++ [IB x, SZB (0, 0), SZB (0, 0), SZB ((l.take j).foldl (fun a y => addS a (szF x f y)) (0, 1))]) :=
         evF_at (mv fx) [0, 1, 2, 3, 4] hev rfl rfl rfl rfl rfl
       revert pj ha hs hv ei
       generalize (l.take j).foldl (fun a y => addS a (szF x f y)) (0, 1) = A
       generalize l.getD j [] = y
       generalize szF x f y = v
       intro pj ha hs hv ei
       repeat' (first | refine run ⟨?_⟩ | refine pickD pj ?_ | refine ca (ei) ?_ | fail)
       refine ⟨(j + 1, d3), ⟨by show j + 1 ≤ _; omega, hd3⟩, by show _ - (j + 1) < _ - j; omega, by rw [i64w (by omega)] <;> rfl, ?_⟩
       dsimp only
       rw [hs, i64w (by omega), i64w (by omega)]; rfl
      ·have h' : ¬ (j : Int) < (l.length : Int) := by omega
       obtain rfl : j = l.length := by omega
       rw [List.take_length]
       obtain ⟨d4, g1, g2⟩ := hend d2 hd2 _ rfl
       revert g2
       generalize l.foldl (fun a y => addS a (szF x f y)) (0, 1) = A
       intro g2
       repeat' (first | refine run ⟨?_⟩ | refine And.intro (szM_keys _) ?_ | fail)
       exact ⟨d4, g1, by show _ = [_, _, _, _, Ob.map (szM d4)]; rw [← g2]; rfl⟩
     | false =>
      rw [ck] at e1
      simp only [ck, Bool.false_eq_true, if_false] at hend ⊢
      by_cases cu : s = unitT
      ·rw [if_pos cu] at hend ⊢
       have cu' : s = [40, 41] := cu
       obtain ⟨d4, g1, g2⟩ := hend d hd _ rfl
       repeat' (first | refine run ⟨?_⟩ | refine mg (szM_keys _) hf ?_ | refine ca (eh) ?_ | refine ca (e1) ?_ | refine And.intro (szM_keys _) ?_ | fail)
       exact ⟨d4, g1, by show _ = [_, _, _, _, Ob.map (szM d4)]; rw [← g2]; rfl⟩
      ·rw [if_neg cu] at hend ⊢
       have cu' : ¬ s = [40, 41] := cu
       obtain ⟨d4, g1, g2⟩ := hend d hd _ rfl
       repeat' (first | refine run ⟨?_⟩ | refine mg (szM_keys _) hf ?_ | refine ca (eh) ?_ | refine ca (e1) ?_ | refine And.intro (szM_keys _) ?_ | fail)
       exact ⟨d4, g1, by show _ = [_, _, _, _, Ob.map (szM d4)]; rw [← g2]; rfl⟩
   ·obtain ⟨q1, q2⟩ := hd _ hm
    have hw : (w, p) = szF x (f + 1) s := by rw [show (w, p) = (s, w, p).2 from rfl, q2]; exact szF_any q1 hdeep
    rw [← hw]
    repeat' (first | refine run ⟨?_⟩ | refine mg (szM_keys _) hf ?_ | fail)
    exact ⟨d, hd, rfl⟩
end
end Go.Vm.Ite
namespace Go.Vm.Ite
open Go Go.Vm Go.Proofs Go.Vm.Ip
set_option maxRecDepth 100000
noncomputable def c88 : Code := (Tryz.f95.body).getD .skip
theorem b88 : Tryz.f95.body = some c88 := by kernel_rfl
noncomputable def x88 : Code := cR (cR c88)
noncomputable def y88 : Code := cR x88
noncomputable def d88 : VCode := vR (vR B95)
noncomputable def A0' : Code := cA (cR (cR (cL x88)))
noncomputable def L0 : Code := cK (cK (cR (cL A0')))
noncomputable def G0 : Code := cR (cR L0)
noncomputable def J0 : Code := cK (cL G0)
noncomputable def vA0 : VCode := vA (vR (vR (vL d88)))
theorem sA0 : (cL x88) = .seq (cL (cL x88)) (.seq (cL (cR (cL x88))) (.cond (.tmp 25) A0' .skip)) := by kernel_rfl
theorem sB0 : A0' = .seq (.seq (cL (cL A0')) (.block 0 (.loop L0))) (cR A0') := by kernel_rfl
theorem tA0 : tr Tryz.prog n50 (cL (cL x88)) = some (vR (vL (vL d88))) := by kernel_rfl
theorem tB0 : tr Tryz.prog n50 (cL (cR (cL x88))) = some (vL (vR (vL d88))) := by kernel_rfl
theorem tC0 : tr Tryz.prog n50 (cL (cL A0')) = some (vL (vL vA0)) := by kernel_rfl
theorem tD0 : tr Tryz.prog n50 (cR A0') = some (vR vA0) := by kernel_rfl
noncomputable def A1' : Code := cA (cR (cR (cL y88)))
noncomputable def L1 : Code := cK (cK (cR (cL A1')))
noncomputable def G1 : Code := cR (cR L1)
noncomputable def J1 : Code := cK (cL G1)
noncomputable def vA1 : VCode := vA (vR (vR (vL (vR d88))))
theorem sA1 : (cL y88) = .seq (cL (cL y88)) (.seq (cL (cR (cL y88))) (.cond (.tmp 52) A1' .skip)) := by kernel_rfl
theorem sB1 : A1' = .seq (.seq (cL (cL A1')) (.block 2 (.loop L1))) (cR A1') := by kernel_rfl
theorem tA1 : tr Tryz.prog n50 (cL (cL y88)) = some (vL (vL (vR d88))) := by kernel_rfl
theorem tB1 : tr Tryz.prog n50 (cL (cR (cL y88))) = some (vL (vR (vL (vR d88)))) := by kernel_rfl
theorem tC1 : tr Tryz.prog n50 (cL (cL A1')) = some (vL (vL vA1)) := by kernel_rfl
theorem tD1 : tr Tryz.prog n50 (cR A1') = some (vR vA1) := by kernel_rfl
theorem tR0 : tr Tryz.prog n50 (cL L0) = some (vL L95_0) := by kernel_rfl
theorem tR1 : tr Tryz.prog n50 (cL L1) = some (vL L95_1) := by kernel_rfl
theorem tJ0 : tr Tryz.prog n50 (cL J0) = some (vL (vK (vL (vR (vR L95_0))))) := by kernel_rfl
theorem tG0 : tr Tryz.prog n50 (cR G0) = some (vR (vR (vR L95_0))) := by kernel_rfl
noncomputable def w0 : List VOper := vO (vR (vK (vL (vR (vR L95_0)))))
theorem ap0a : trOpers Tryz.prog (cOps (cR J0)) (((cOps (cR J0)).toList.drop 0).take 4) = some (w0.take 4) := by kernel_rfl
theorem ap0b : trOpers Tryz.prog (cOps (cR J0)) (((cOps (cR J0)).toList.drop 5).take 1) = some (w0.drop 5) := by kernel_rfl
theorem ap0c : ((cOps (cR J0))[4]?).map (fun o => (o.op, o.dst, o.guard)) = some (.call { callee := .builtin .append, args := #[.tmp 37, .tmp 40], argTypes := #[97, 97] }, some 41, none) := by kernel_rfl
theorem ap0s : (cOps (cR J0)).size = 4 + 1 + 1 := by kernel_rfl
noncomputable def iStr : TypeInfo := (Tryz.prog.info? 9).getD default
theorem iStr_e : Tryz.prog.info? 9 = some iStr := by kernel_rfl
noncomputable def zStr : Value := (iStr.zero).getD default
theorem zStr_e : iStr.zero = some zStr := by kernel_rfl
theorem zStr_s : zStr.cells.size = iStr.size := by kernel_rfl
theorem iStr_s : iStr.size = 1 := by kernel_rfl
theorem iStr_b : iStr.bytes = 16 := by kernel_rfl
theorem tJ1 : tr Tryz.prog n50 (cL J1) = some (vL (vK (vL (vR (vR L95_1))))) := by kernel_rfl
theorem tN1 : tr Tryz.prog n50 (cL (cR J1)) = some (vL (vR (vK (vL (vR (vR L95_1)))))) := by kernel_rfl
theorem tG1 : tr Tryz.prog n50 (cR G1) = some (vR (vR (vR L95_1))) := by kernel_rfl
noncomputable def g1c : Code := cA (cR (cR J1))
noncomputable def w1 : List VOper := vO (vA (vR (vR (vK (vL (vR (vR L95_1)))))))
theorem ap1a : trOpers Tryz.prog (cOps g1c) (((cOps g1c).toList.drop 0).take 4) = some (w1.take 4) := by kernel_rfl
theorem ap1b : trOpers Tryz.prog (cOps g1c) (((cOps g1c).toList.drop 5).take 1) = some (w1.drop 5) := by kernel_rfl
theorem ap1c : ((cOps g1c)[4]?).map (fun o => (o.op, o.dst, o.guard)) = some (.call { callee := .builtin .append, args := #[.tmp 67, .tmp 70], argTypes := #[97, 97] }, some 71, none) := by kernel_rfl
theorem ap1s : (cOps g1c).size = 4 + 1 + 1 := by kernel_rfl
theorem s88 : c88 = .seq (cL c88) (.seq (cL (cR c88)) (.seq (cL x88) (.seq (cL y88) (cR y88)))) := by kernel_rfl
theorem t88a : tr Tryz.prog n50 (cL c88) = some (vL B95) := by kernel_rfl
theorem t88b : tr Tryz.prog n50 (cL (cR c88)) = some (vL (vR B95)) := by kernel_rfl
theorem t88c : tr Tryz.prog n50 (cR y88) = some (vR (vR d88)) := by kernel_rfl
theorem sL0 : L0 = .seq (cL L0) (.seq (.cond (.tmp 34) .skip (.exit 0)) (.seq (.block 1 (.seq (cL J0) (.region (cId (cR J0)) (cOps (cR J0)) false))) (cR G0))) := by kernel_rfl
theorem sL1 : L1 = .seq (cL L1) (.seq (.cond (.tmp 61) .skip (.exit 2)) (.seq (.block 3 (.seq (cL J1) (.seq (cL (cR J1)) (.cond (.tmp 66) (.region (cId (cA (cR (cR J1)))) (cOps (cA (cR (cR J1)))) false) .skip)))) (cR G1))) := by kernel_rfl
abbrev HH (x : Its) (o6 o7 o8 o9 : Ob) : Hp := [IB x, IB x, .map (finM (nS x)), .map (finM (nE x)), .map (finM (nF x)), .box [.mp 2, .mp 3, .mp 4], o6, o7, o8, o9]
abbrev HI (x : Its) (o6 o7 o8 o9 : Ob) : Hp := [IB x, IB x, .map (finM (nS x)), .map (finM (nE x)), .map (finM (nF x)), .box [.mp 2, .mp 3, .mp 4], o6, o7, o8, o9, IB x]
theorem clean_HI {x : Its} {o6 o7 o8 o9 : Ob} (h : Clean 10 (HH x o6 o7 o8 o9)) : Clean 11 (HI x o6 o7 o8 o9) := by
 intro i c hi ho
 by_cases e : i = 10
 ·subst e
  simp only [HI, List.getElem?_cons_succ, List.getElem?_cons_zero, Option.some.injEq, IB, Ob.box.injEq] at ho
  subst ho; rfl
 ·have h1 := h i c (by omega) (by
    have : (HI x o6 o7 o8 o9) = HH x o6 o7 o8 o9 ++ [IB x] := rfl
    rw [this, List.getElem?_append_left (by show i < 10; omega)] at ho
    exact ho)
  exact undL_le (by omega) _ h1
theorem clean_app {n : Nat} {H X : Hp} (h : Clean n H) (hn : n ≤ H.length) : Clean n (H ++ X) := by
 intro i c hi ho
 rw [List.getElem?_append_left (by omega)] at ho
 exact h i c hi ho
section
variable {fx : Nat → Option Obj}
abbrev cxL (fx : Nat → Option Obj) : Cx := ⟨fun _ => [], fx⟩
theorem tOk (fx : Nat → Option Obj) : TblOk Tryz.prog (pgL fx F0) := tblOk _ _ (fun _ _ h => nomatch h)
theorem u66 : Tryz.prog.underlying 97 = some (.slice 9) := by kernel_rfl
def LInv (fx : Nat → Option Obj) (x : Its) (o6 o7 o8 o9 : Ob) (g0 : Gh) (ww : World) (E : Nat → Value → Env) (len : Nat) (us : Nat → List S) (k : Nat) (a : Act) (w : World) : Prop :=
 ∃ j g xv, k = len - j ∧ j ≤ len ∧ StOk (cxL fx) 74 g ⟨E j xv, HI x o6 o7 o8 o9, 10⟩ a w ∧ Loose (cxL fx) g w ww.heap.size 1 xv (us j).length ((us j).map strV) ∧ Ext 10 g0 (HH x o6 o7 o8 o9) ww g (HI x o6 o7 o8 o9) w
set_option maxHeartbeats 2000000 in
theorem loop0 (x : Its) (o6 o7 o8 o9 : Ob) (hcl : Clean 10 (HH x o6 o7 o8 o9)) (g0 : Gh) (ww : World) (fs : List Fld) (hfs : fs.length ≤ 4398046511104) {Q : Exit → Act → World → Prop}
 (hq : ∀ g a w xv, StOk (cxL fx) 74 g ⟨[(8, .raw xv)], HI x o6 o7 o8 o9, 10⟩ a w → Loose (cxL fx) g w ww.heap.size 1 xv (fs.map Fld.t).length ((fs.map Fld.t).map strV) → Ext 10 g0 (HH x o6 o7 o8 o9) ww g (HI x o6 o7 o8 o9) w → Q .normal a w)
 (a : Act) (w : World) (h : LInv fx x o6 o7 o8 o9 g0 ww (fun j xv => [(8, .raw xv), (31, .d (fldsD fs)), (32, i64 fs.length), (33, i64 j)]) fs.length (fun j => (fs.take j).map Fld.t) fs.length a w) : (Code.block 0 (.loop L0)).wp Tryz.prog Q a w := by
 have hT := tOk fx
 apply wp_block
 refine wp_loop_dec (LInv fx x o6 o7 o8 o9 g0 ww (fun j xv => [(8, .raw xv), (31, .d (fldsD fs)), (32, i64 fs.length), (33, i64 j)]) fs.length (fun j => (fs.take j).map Fld.t)) ?_ h
 rintro k a w ⟨j, g, xv, rfl, hj, ok, hl, E0⟩
 rw [sL0]
 apply wp_seq
 refine chunk hT mixed tR0 (by kernel_rfl) ok (R := fun x1 e' H' => x1 = .nrm ∧ keepE [8, 31, 32, 33, 34] e' = [(8, .raw xv), (31, .d (fldsD fs)), (32, i64 fs.length), (33, i64 j), (34, boo (decide ((j : Int) < fs.length)))] ∧ H' = HI x o6 o7 o8 o9) ?_ ?_
 ·refine run ⟨?_⟩
  exact rfl
 rintro x1 e' H' g1 a1 w1 ⟨rfl, he, rfl⟩ ok1 ext1
 have ok1 := ok1.forget [8, 31, 32, 33, 34]
 rw [he] at ok1
 have hl1 := hl.ext ext1
 have E1 := E0.trans ext1 (Nat.le_refl _)
 clear ok he
 show (Code.seq _ _).wp _ _ _ _
 apply wp_seq
 refine Go.wp_cond_split (cond_val ok1 (i := 34) (by decide) rfl) (fun hc => ?_) (fun hc => ?_)
 ·have hlt : j < fs.length := by have := of_decide_eq_true hc; omega
  have pj := gFl hlt
  have ht : (fs.take (j + 1)).map Fld.t = (fs.take j).map Fld.t ++ [(fs.getD j default).t] := by rw [take_succ_getD hlt, List.map_append]; rfl
  revert pj ht
  generalize fs.getD j default = f
  intro pj ht
  apply wp_skip
  show (Code.seq _ _).wp _ _ _ _
  apply wp_seq
  apply wp_block
  apply wp_seq
  refine chunk hT mixed tJ0 (by kernel_rfl) ok1 (R := fun x1 e' H' => x1 = .nrm ∧ keepE [8, 12, 31, 32, 33] e' = [(8, .raw xv), (12, .ptr 11 0), (31, .d (fldsD fs)), (32, i64 fs.length), (33, i64 j)] ∧ H' = HI x o6 o7 o8 o9 ++ [.box [str f.n, str f.t]]) ?_ ?_
  ·repeat' (first | refine run ⟨?_⟩ | refine pickD pj ?_ | fail)
   exact rfl
  rintro x1 e' H' g2 a2 w2 ⟨rfl, he, rfl⟩ ok2 ext2
  have ok2 := ok2.forget [8, 12, 31, 32, 33]
  rw [he] at ok2
  have hl2 := hl1.ext ext2
  have E2 := E1.trans ext2 (Nat.le_refl _)
  show (Code.region _ _ _).wp _ _ _ _
  refine wp_app (ev_sound hT mixed) ap0s ap0a ap0b (by kernel_rfl) (by kernel_rfl) ap0c (by decide) u66 iStr_e zStr_e zStr_s ok2 (s1 := ⟨[(40, .d (.sl [.str f.t])), (39, str f.t), (38, .ptr 11 1), (37, .raw xv), (8, .raw xv), (12, .ptr 11 0), (31, .d (fldsD fs)), (32, i64 fs.length), (33, i64 j)], HI x o6 o7 o8 o9 ++ [.box [str f.n, str f.t]], 10⟩) rfl (xv := xv) rfl (by decide) (w0 := ww) (by rw [iStr_s]; exact hl2) E2 (m3 := 1) (vs := [strV f.t]) (fun g' a' w' ok' _ => by rw [iStr_s]; exact stand_str ok' (by decide) rfl) (by intro u hu; rw [List.mem_singleton] at hu; subst hu; rfl) (by rw [iStr_b]; constructor <;> simp <;> omega) (s2 := fun xv' => ⟨[(8, .raw xv'), (41, .raw xv'), (40, .d (.sl [.str f.t])), (39, str f.t), (38, .ptr 11 1), (37, .raw xv), (8, .raw xv), (12, .ptr 11 0), (31, .d (fldsD fs)), (32, i64 fs.length), (33, i64 j)], HI x o6 o7 o8 o9 ++ [.box [str f.n, str f.t]], 10⟩) (fun _ => rfl) ?_
  intro xv' g3 a3 w3 ok3 hl3 E3
  rw [iStr_s] at hl3
  show Code.wp _ (cR G0) _ _ _
  refine chunk hT mixed tG0 (by kernel_rfl) ok3 (R := fun x1 e' H' => x1 = .nrm ∧ cut 11 (keepE [8, 31, 32, 33] e') = [(8, .raw xv'), (31, .d (fldsD fs)), (32, i64 fs.length), (33, i64 ((j + 1 : Nat) : Int))] ∧ H' = HI x o6 o7 o8 o9 ++ [.box [str f.n, str f.t]]) ?_ ?_
  ·have hw : IntKind.i64.wrap ((j : Int) + 1) = ((j + 1 : Nat) : Int) := by rw [i64w (by omega)]; rfl
   refine run ⟨?_⟩
   refine ⟨?_, rfl⟩
   rw [← hw]; rfl
  rintro x1 e' H' g4 a4 w4 ⟨rfl, he, rfl⟩ ok4 ext4
  have hl4 := (hl3.ext ext4).cut (m := 11)
  have E4 := (E3.trans ext4 (Nat.le_refl _)).cut2 (n := 11) (by show 10 ≤ 11; decide) (by show 11 ≤ 12; decide) (by show 10 ≤ 11; decide)
  have ok4 := ok4.drop (n := 11) [8, 31, 32, 33] (by show 11 ≤ 12; decide) (clean_app (clean_HI hcl) (by show 11 ≤ 11; decide)) (by show 10 ≤ 11; decide)
  rw [he] at ok4
  refine ⟨fs.length - (j + 1), by omega, j + 1, g4.cut 11, xv', rfl, by omega, ok4, ?_, E4⟩
  dsimp only at hl4 ⊢
  rw [ht, List.map_append, List.length_append]
  exact hl4
 ·apply wp_exit
  have hj' : j = fs.length := by have := of_decide_eq_false hc; omega
  subst hj'
  dsimp only at hl1
  rw [List.take_length] at hl1
  exact hq _ _ _ xv (ok1.forget [8]) hl1 E1
set_option maxHeartbeats 2000000 in
theorem loop1 (x : Its) (o6 o7 o8 o9 : Ob) (hcl : Clean 10 (HH x o6 o7 o8 o9)) (g0 : Gh) (ww : World) (fs : List Fld) (hfs : fs.length ≤ 4398046511104) {Q : Exit → Act → World → Prop}
 (hq : ∀ g a w xv, StOk (cxL fx) 74 g ⟨[(8, .raw xv)], HI x o6 o7 o8 o9, 10⟩ a w → Loose (cxL fx) g w ww.heap.size 1 xv (someT fs).length ((someT fs).map strV) → Ext 10 g0 (HH x o6 o7 o8 o9) ww g (HI x o6 o7 o8 o9) w → Q .normal a w)
 (a : Act) (w : World) (h : LInv fx x o6 o7 o8 o9 g0 ww (fun j xv => [(8, .raw xv), (58, .d (fldsD fs)), (59, i64 fs.length), (60, i64 j)]) fs.length (fun j => someT (fs.take j)) fs.length a w) : (Code.block 2 (.loop L1)).wp Tryz.prog Q a w := by
 have hT := tOk fx
 apply wp_block
 refine wp_loop_dec (LInv fx x o6 o7 o8 o9 g0 ww (fun j xv => [(8, .raw xv), (58, .d (fldsD fs)), (59, i64 fs.length), (60, i64 j)]) fs.length (fun j => someT (fs.take j))) ?_ h
 rintro k a w ⟨j, g, xv, rfl, hj, ok, hl, E0⟩
 rw [sL1]
 apply wp_seq
 refine chunk hT mixed tR1 (by kernel_rfl) ok (R := fun x1 e' H' => x1 = .nrm ∧ keepE [8, 58, 59, 60, 61] e' = [(8, .raw xv), (58, .d (fldsD fs)), (59, i64 fs.length), (60, i64 j), (61, boo (decide ((j : Int) < fs.length)))] ∧ H' = HI x o6 o7 o8 o9) ?_ ?_
 ·refine run ⟨?_⟩
  exact rfl
 rintro x1 e' H' g1 a1 w1 ⟨rfl, he, rfl⟩ ok1 ext1
 have ok1 := ok1.forget [8, 58, 59, 60, 61]
 rw [he] at ok1
 have hl1 := hl.ext ext1
 have E1 := E0.trans ext1 (Nat.le_refl _)
 clear ok he
 show (Code.seq _ _).wp _ _ _ _
 apply wp_seq
 refine Go.wp_cond_split (cond_val ok1 (i := 61) (by decide) rfl) (fun hc => ?_) (fun hc => ?_)
 ·have hlt : j < fs.length := by have := of_decide_eq_true hc; omega
  have pj := gFl hlt
  have ht := someT_succ hlt
  have hsl := someT_len (fs.take j)
  simp only [List.length_take] at hsl
  revert pj ht
  generalize fs.getD j default = f
  intro pj ht
  apply wp_skip
  show (Code.seq _ _).wp _ _ _ _
  apply wp_seq
  apply wp_block
  apply wp_seq
  refine chunk hT mixed tJ1 (by kernel_rfl) ok1 (R := fun x1 e' H' => x1 = .nrm ∧ keepE [8, 16, 58, 59, 60] e' = [(8, .raw xv), (16, .ptr 11 0), (58, .d (fldsD fs)), (59, i64 fs.length), (60, i64 j)] ∧ H' = HI x o6 o7 o8 o9 ++ [.box [str f.n, str f.t]]) ?_ ?_
  ·repeat' (first | refine run ⟨?_⟩ | refine pickD pj ?_ | fail)
   exact rfl
  rintro x1 e' H' g2 a2 w2 ⟨rfl, he, rfl⟩ ok2 ext2
  have ok2 := ok2.forget [8, 16, 58, 59, 60]
  rw [he] at ok2
  have hl2 := hl1.ext ext2
  have E2 := E1.trans ext2 (Nat.le_refl _)
  show (Code.seq _ _).wp _ _ _ _
  apply wp_seq
  refine chunk hT mixed tN1 (by kernel_rfl) ok2 (R := fun x1 e' H' => x1 = .nrm ∧ keepE [8, 16, 58, 59, 60, 66] e' = [(8, .raw xv), (16, .ptr 11 0), (58, .d (fldsD fs)), (59, i64 fs.length), (60, i64 j), (66, boo (!decide (f.t = [])))] ∧ H' = HI x o6 o7 o8 o9 ++ [.box [str f.n, str f.t]]) ?_ ?_
  ·refine run ⟨?_⟩
   exact rfl
  rintro x1 e' H' g3 a3 w3 ⟨rfl, he, rfl⟩ ok3 ext3
  have ok3 := ok3.forget [8, 16, 58, 59, 60, 66]
  rw [he] at ok3
  have hl3 := hl2.ext ext3
  have E3 := E2.trans ext3 (Nat.le_refl _)
  have fin : ∀ (g3 : Gh) (a3 : Act) (w3 : World) (xv' : Value) (e : Env), getE e 8 = .raw xv' → getE e 58 = .d (fldsD fs) → getE e 59 = i64 fs.length → getE e 60 = i64 j → StOk (pgL fx F0).toCx 74 g3 ⟨e, HI x o6 o7 o8 o9 ++ [.box [str f.n, str f.t]], 10⟩ a3 w3 → Loose (cxL fx) g3 w3 ww.heap.size 1 xv' (someT (fs.take (j + 1))).length ((someT (fs.take (j + 1))).map strV) → Ext 10 g0 (HH x o6 o7 o8 o9) ww g3 (HI x o6 o7 o8 o9 ++ [.box [str f.n, str f.t]]) w3 →
   Code.wp Tryz.prog (cR G1) (Exit.then (fun a' w' => ∃ k', k' < fs.length - j ∧ LInv fx x o6 o7 o8 o9 g0 ww (fun j xv => [(8, .raw xv), (58, .d (fldsD fs)), (59, i64 fs.length), (60, i64 j)]) fs.length (fun j => someT (fs.take j)) k' a' w') (Exit.inBlock 2 Q)) a3 w3 := by
   intro g3 a3 w3 xv' e q1 q2 q3 q4 ok3 hl3 E3
   have ok3 := ok3.forget [8, 58, 59, 60]
   rw [show keepE [8, 58, 59, 60] e = [(8, getE e 8), (58, getE e 58), (59, getE e 59), (60, getE e 60)] from rfl, q1, q2, q3, q4] at ok3
   refine chunk hT mixed tG1 (by kernel_rfl) ok3 (R := fun x1 e' H' => x1 = .nrm ∧ cut 11 (keepE [8, 58, 59, 60] e') = [(8, .raw xv'), (58, .d (fldsD fs)), (59, i64 fs.length), (60, i64 ((j + 1 : Nat) : Int))] ∧ H' = HI x o6 o7 o8 o9 ++ [.box [str f.n, str f.t]]) ?_ ?_
   ·have hw : IntKind.i64.wrap ((j : Int) + 1) = ((j + 1 : Nat) : Int) := by rw [i64w (by omega)]; rfl
    refine run ⟨?_⟩
    refine ⟨?_, rfl⟩
    rw [← hw]; rfl
   rintro x1 e' H' g4 a4 w4 ⟨rfl, he, rfl⟩ ok4 ext4
   have hl4 := (hl3.ext ext4).cut (m := 11)
   have E4 := (E3.trans ext4 (Nat.le_refl _)).cut2 (n := 11) (by show 10 ≤ 11; decide) (by show 11 ≤ 12; decide) (by show 10 ≤ 11; decide)
   have ok4 := ok4.drop (n := 11) [8, 58, 59, 60] (by show 11 ≤ 12; decide) (clean_app (clean_HI hcl) (by show 11 ≤ 11; decide)) (by show 10 ≤ 11; decide)
   rw [he] at ok4
   exact ⟨fs.length - (j + 1), by omega, j + 1, g4.cut 11, xv', rfl, by omega, ok4, hl4, E4⟩
  show (Code.cond _ _ _).wp _ _ _ _
  refine Go.wp_cond_split (cond_val ok3 (i := 66) (by decide) rfl) (fun hc2 => ?_) (fun hc2 => ?_)
  ·have hft : ¬ f.t = [] := by simpa using hc2
   rw [if_neg hft] at ht
   refine wp_app (ev_sound hT mixed) ap1s ap1a ap1b (by kernel_rfl) (by kernel_rfl) ap1c (by decide) u66 iStr_e zStr_e zStr_s ok3 (s1 := ⟨[(70, .d (.sl [.str f.t])), (69, str f.t), (68, .ptr 11 1), (67, .raw xv), (8, .raw xv), (16, .ptr 11 0), (58, .d (fldsD fs)), (59, i64 fs.length), (60, i64 j), (66, boo (!decide (f.t = [])))], HI x o6 o7 o8 o9 ++ [.box [str f.n, str f.t]], 10⟩) rfl (xv := xv) rfl (by decide) (w0 := ww) (by rw [iStr_s]; exact hl3) E3 (m3 := 1) (vs := [strV f.t]) (fun g' a' w' ok' _ => by rw [iStr_s]; exact stand_str ok' (by decide) rfl) (by intro u hu; rw [List.mem_singleton] at hu; subst hu; rfl) (by rw [iStr_b]; dsimp only; constructor <;> omega) (s2 := fun xv' => ⟨[(8, .raw xv'), (71, .raw xv'), (70, .d (.sl [.str f.t])), (69, str f.t), (68, .ptr 11 1), (67, .raw xv), (8, .raw xv), (16, .ptr 11 0), (58, .d (fldsD fs)), (59, i64 fs.length), (60, i64 j), (66, boo (!decide (f.t = [])))], HI x o6 o7 o8 o9 ++ [.box [str f.n, str f.t]], 10⟩) (fun _ => rfl) ?_
   intro xv' g4 a4 w4 ok4 hl4 E4
   rw [iStr_s] at hl4
   refine fin g4 a4 w4 xv' _ rfl rfl rfl rfl ok4 ?_ E4
   rw [ht, List.map_append, List.length_append]
   exact hl4
  ·have hft : f.t = [] := by simpa using hc2
   rw [if_pos hft] at ht
   apply wp_skip
   refine fin g3 a3 w3 xv _ rfl rfl rfl rfl ok3 ?_ E3
   rw [ht]
   exact hl3
 ·apply wp_exit
  have hj' : j = fs.length := by have := of_decide_eq_false hc; omega
  subst hj'
  dsimp only at hl1
  rw [List.take_length] at hl1
  exact hq _ _ _ xv (ok1.forget [8]) hl1 E1
theorem r88 : trRes Tryz.prog Tryz.f95.results.toList = some [.tmp 6, .tmp 7] := by kernel_rfl
theorem f88f : Tryz.prog.funcs[95]? = some Tryz.f95 := by kernel_rfl
theorem n88t : Tryz.f95.ntmps = 74 := by kernel_rfl
def HQ (fx : Nat → Option Obj) (x : Its) (s : S) (o6 o7 o8 o9 : Ob) (g0 : Gh) (ww : World) : Exit → Act → World → Prop := fun e a w => e = .ret ∧ ∃ g xv, StOk (cxL fx) 74 g ⟨[(6, .raw xv), (7, boo (heldM x s).2)], HI x o6 o7 o8 o9, 10⟩ a w ∧ Loose (cxL fx) g w ww.heap.size 1 xv (heldM x s).1.length ((heldM x s).1.map strV) ∧ Ext 10 g0 (HH x o6 o7 o8 o9) ww g (HI x o6 o7 o8 o9) w
set_option maxHeartbeats 4000000 in
theorem held_body (x : Its) (hx : Fine x) (s : S) (o6 o7 o8 o9 : Ob) (g : Gh) (w : World) (a : Act) (hcl : Clean 10 (HH x o6 o7 o8 o9)) (ok : StOk (cxL fx) 74 g ⟨[(0, .d x.D), (1, .ptr 5 0), (2, str s)], HH x o6 o7 o8 o9, 10⟩ a w) : c88.wp Tryz.prog (HQ fx x s o6 o7 o8 o9 g w) a w := by
 have hT := tOk fx
 have hp : ∀ (k : Nat) (r : V), evF (pgL fx F0) n_items_table_find [.ptr 3 k, str s] (FH x) = some (r, FH x) → r.sh (toPl [2, 3, 4, 5] (HI x o6 o7 o8 o9).length) = r → evF (pgL fx F0) n_items_table_find [.ptr 5 k, str s] (HI x o6 o7 o8 o9) = some (r, HI x o6 o7 o8 o9) := fun k r h hr => by
   have := evF_at (mv fx) [2, 3, 4, 5] (X := HI x o6 o7 o8 o9) (A := [.ptr 5 k, str s]) h rfl rfl rfl rfl rfl
   rw [hr] at this
   exact this
 have e1 := hp 0 _ (find0_s x s) rfl
 have e2 := hp 1 _ (find1_s x s) rfl
 clear hp
 have hS : (nS x).length = x.ss.length := by simp [nS]
 have hE : (nE x).length = x.es.length := by simp [nE]
 have gS : ∀ i, pos (nS x) s = some i → i < x.ss.length := fun i h => by have := pos_lt h; omega
 have gE : ∀ i, pos (nE x) s = some i → i < x.es.length := fun i h => by have := pos_lt h; omega
 rw [s88]
 apply wp_seq
 refine chunk hT mixed t88a (by kernel_rfl) ok (R := fun x1 e' H' => x1 = .nrm ∧ keepE [1, 2, 3] e' = [(1, .ptr 5 0), (2, str s), (3, .ptr 10 0)] ∧ H' = HI x o6 o7 o8 o9) ?_ ?_
 ·refine run ⟨?_⟩
  exact rfl
 rintro x1 e' H' g1 a1 w1 ⟨rfl, he, rfl⟩ ok1 ext1
 have ok1 := ok1.forget [1, 2, 3]
 rw [he] at ok1
 clear he ok
 show (Code.seq _ _).wp _ _ _ _
 apply wp_seq
 refine chunk hT mixed t88b (by kernel_rfl) ok1 (R := fun x1 e' H' => x1 = .nrm ∧ keepE [1, 2, 3, 8] e' = [(1, .ptr 5 0), (2, str s), (3, .ptr 10 0), (8, .nils)] ∧ H' = HI x o6 o7 o8 o9) ?_ ?_
 ·refine run ⟨?_⟩
  exact rfl
 rintro x1 e' H' g2 a2 w2 ⟨rfl, he, rfl⟩ ok2 ext2
 have ok2 := ok2.forget [1, 2, 3, 8]
 rw [he] at ok2
 have ok2 := (ok2.toRaw (i := 8) (by decide) rfl).forget [1, 2, 3, 8]
 have E2 := ext1.trans ext2 (Nat.le_refl _)
 clear he ok1
 show (Code.seq _ _).wp _ _ _ _
 apply wp_seq
 rw [sA0]
 apply wp_seq
 refine chunk hT mixed tA0 (by kernel_rfl) ok2 (R := fun x1 e' H' => x1 = .nrm ∧ keepE [1, 2, 3, 8, 9, 10] e' = [(1, .ptr 5 0), (2, str s), (3, .ptr 10 0), (8, .raw (.slice none 0 0)), (9, i64 (loc (nS x) s)), (10, boo (known (nS x) s))] ∧ H' = HI x o6 o7 o8 o9) ?_ ?_
 ·repeat' (first | refine run ⟨?_⟩ | refine ca (e1) ?_ | fail)
  exact rfl
 rintro x1 e' H' g3 a3 w3 ⟨rfl, he, rfl⟩ ok3 ext3
 have ok3 := ok3.forget [1, 2, 3, 8, 9, 10]
 rw [he] at ok3
 have E3 := E2.trans ext3 (Nat.le_refl _)
 clear he ok2
 show (Code.seq _ _).wp _ _ _ _
 apply wp_seq
 refine chunk hT mixed tB0 (by kernel_rfl) ok3 (R := fun x1 e' H' => x1 = .nrm ∧ keepE [1, 2, 3, 8, 9, 25] e' = [(1, .ptr 5 0), (2, str s), (3, .ptr 10 0), (8, .raw (.slice none 0 0)), (9, i64 (loc (nS x) s)), (25, boo (known (nS x) s))] ∧ H' = HI x o6 o7 o8 o9) ?_ ?_
 ·refine run ⟨?_⟩
  exact rfl
 rintro x1 e' H' g4 a4 w4 ⟨rfl, he, rfl⟩ ok4 ext4
 have ok4 := ok4.forget [1, 2, 3, 8, 9, 25]
 rw [he] at ok4
 have E4 := E3.trans ext4 (Nat.le_refl _)
 clear he ok3
 show (Code.cond _ _ _).wp _ _ _ _
 refine Go.wp_cond_split (cond_val ok4 (i := 25) (by decide) rfl) (fun hc => ?_) (fun hc => ?_)
 ·cases hp : pos (nS x) s with
  | none => rw [known, hp] at hc; cases hc
  | some i =>
   have hi := gS i hp
   have hloc : loc (nS x) s = (i : Int) := by rw [loc, hp]
   rw [hloc] at ok4
   unfold HQ heldM
   rw [hp]
   dsimp only
   have pi := gN hi
   have hl : (x.ss.getD i default).fs.length ≤ 4398046511104 := by
    have : x.ss.getD i default ∈ x.ss := by simp [List.getD_eq_getElem?_getD, List.getElem?_eq_getElem hi]
    exact (hx.sf _ this).2.1
   revert pi hl
   generalize x.ss.getD i default = y
   obtain ⟨yn, fs⟩ := y
   intro pi hl
   dsimp only at hl ⊢
   rw [sB0]
   apply wp_seq
   apply wp_seq
   refine chunk hT mixed tC0 (by kernel_rfl) ok4 (R := fun x1 e' H' => x1 = .nrm ∧ keepE [8, 31, 32, 33] e' = [(8, .raw (.slice none 0 0)), (31, .d (fldsD fs)), (32, i64 fs.length), (33, i64 ((0 : Nat) : Int))] ∧ H' = HI x o6 o7 o8 o9) ?_ ?_
   ·repeat' (first | refine run ⟨?_⟩ | refine pickD pi ?_ | fail)
    exact ⟨by show [_, _, _, _] = _; rw [List.length_map] <;> rfl, rfl⟩
   rintro x1 e' H' g7 a7 w7 ⟨rfl, he, rfl⟩ ok7 ext7
   have ok7 := ok7.forget [8, 31, 32, 33]
   rw [he] at ok7
   have E7 := E4.trans ext7 (Nat.le_refl _)
   show (Code.block _ _).wp _ _ _ _
   refine loop0 x o6 o7 o8 o9 hcl g w fs hl (fun g8 a8 w8 xv ok8 hl8 E8 => ?_) a7 w7 ⟨0, g7, .slice none 0 0, rfl, Nat.zero_le _, ok7, .nil, E7⟩
   show Code.wp _ (cR A0') _ _ _
   refine chunk hT mixed tD0 (by kernel_rfl) ok8 (R := fun x1 e' H' => x1 = .ret ∧ keepE [6, 7] e' = [(6, .raw xv), (7, boo false)] ∧ H' = HI x o6 o7 o8 o9) ?_ ?_
   ·refine run ⟨?_⟩
    exact rfl
   rintro x1 e' H' g9 a9 w9 ⟨rfl, he, rfl⟩ ok9 ext9
   have ok9 := ok9.forget [6, 7]
   rw [he] at ok9
   exact ⟨rfl, g9, xv, ok9, hl8.ext ext9, E8.trans ext9 (Nat.le_refl _)⟩
 ·apply wp_skip
  cases hpS : pos (nS x) s with
  | some i => rw [known, hpS] at hc; cases hc
  | none =>
   show (Code.seq _ _).wp _ _ _ _
   apply wp_seq
   rw [sA1]
   apply wp_seq
   refine chunk hT mixed tA1 (by kernel_rfl) ok4 (R := fun x1 e' H' => x1 = .nrm ∧ keepE [2, 3, 8, 13, 14] e' = [(2, str s), (3, .ptr 10 0), (8, .raw (.slice none 0 0)), (13, i64 (loc (nE x) s)), (14, boo (known (nE x) s))] ∧ H' = HI x o6 o7 o8 o9) ?_ ?_
   ·repeat' (first | refine run ⟨?_⟩ | refine ca (e2) ?_ | fail)
    exact rfl
   rintro x1 e' H' g5 a5 w5 ⟨rfl, he, rfl⟩ ok5 ext5
   have ok5 := ok5.forget [2, 3, 8, 13, 14]
   rw [he] at ok5
   have E5 := E4.trans ext5 (Nat.le_refl _)
   clear he ok4
   show (Code.seq _ _).wp _ _ _ _
   apply wp_seq
   refine chunk hT mixed tB1 (by kernel_rfl) ok5 (R := fun x1 e' H' => x1 = .nrm ∧ keepE [2, 3, 8, 13, 52] e' = [(2, str s), (3, .ptr 10 0), (8, .raw (.slice none 0 0)), (13, i64 (loc (nE x) s)), (52, boo (known (nE x) s))] ∧ H' = HI x o6 o7 o8 o9) ?_ ?_
   ·refine run ⟨?_⟩
    exact rfl
   rintro x1 e' H' g6 a6 w6 ⟨rfl, he, rfl⟩ ok6 ext6
   have ok6 := ok6.forget [2, 3, 8, 13, 52]
   rw [he] at ok6
   have E6 := E5.trans ext6 (Nat.le_refl _)
   clear he ok5
   show (Code.cond _ _ _).wp _ _ _ _
   refine Go.wp_cond_split (cond_val ok6 (i := 52) (by decide) rfl) (fun hc2 => ?_) (fun hc2 => ?_)
   ·cases hp : pos (nE x) s with
    | none => rw [known, hp] at hc2; cases hc2
    | some i =>
     have hi := gE i hp
     have hloc : loc (nE x) s = (i : Int) := by rw [loc, hp]
     rw [hloc] at ok6
     unfold HQ heldM
     rw [hpS, hp]
     dsimp only
     have pi := gN hi
     have hl : (x.es.getD i default).fs.length ≤ 4398046511104 := by
      have : x.es.getD i default ∈ x.es := by simp [List.getD_eq_getElem?_getD, List.getElem?_eq_getElem hi]
      exact (hx.ef _ this).2.1
     revert pi hl
     generalize x.es.getD i default = y
     obtain ⟨yn, fs⟩ := y
     intro pi hl
     dsimp only at hl ⊢
     rw [sB1]
     apply wp_seq
     apply wp_seq
     refine chunk hT mixed tC1 (by kernel_rfl) ok6 (R := fun x1 e' H' => x1 = .nrm ∧ keepE [8, 58, 59, 60] e' = [(8, .raw (.slice none 0 0)), (58, .d (fldsD fs)), (59, i64 fs.length), (60, i64 ((0 : Nat) : Int))] ∧ H' = HI x o6 o7 o8 o9) ?_ ?_
     ·repeat' (first | refine run ⟨?_⟩ | refine pickD pi ?_ | fail)
      exact ⟨by show [_, _, _, _] = _; rw [List.length_map] <;> rfl, rfl⟩
     rintro x1 e' H' g7 a7 w7 ⟨rfl, he, rfl⟩ ok7 ext7
     have ok7 := ok7.forget [8, 58, 59, 60]
     rw [he] at ok7
     have E7 := E6.trans ext7 (Nat.le_refl _)
     show (Code.block _ _).wp _ _ _ _
     refine loop1 x o6 o7 o8 o9 hcl g w fs hl (fun g8 a8 w8 xv ok8 hl8 E8 => ?_) a7 w7 ⟨0, g7, .slice none 0 0, rfl, Nat.zero_le _, ok7, .nil, E7⟩
     show Code.wp _ (cR A1') _ _ _
     refine chunk hT mixed tD1 (by kernel_rfl) ok8 (R := fun x1 e' H' => x1 = .ret ∧ keepE [6, 7] e' = [(6, .raw xv), (7, boo true)] ∧ H' = HI x o6 o7 o8 o9) ?_ ?_
     ·refine run ⟨?_⟩
      exact rfl
     rintro x1 e' H' g9 a9 w9 ⟨rfl, he, rfl⟩ ok9 ext9
     have ok9 := ok9.forget [6, 7]
     rw [he] at ok9
     exact ⟨rfl, g9, xv, ok9, hl8.ext ext9, E8.trans ext9 (Nat.le_refl _)⟩
   ·apply wp_skip
    cases hp : pos (nE x) s with
    | some i => rw [known, hp] at hc2; cases hc2
    | none =>
     unfold HQ heldM
     rw [hpS, hp]
     dsimp only
     show Code.wp _ (cR y88) _ _ _
     refine chunk hT mixed t88c (by kernel_rfl) ok6 (R := fun x1 e' H' => x1 = .ret ∧ keepE [6, 7] e' = [(6, .nils), (7, boo false)] ∧ H' = HI x o6 o7 o8 o9) ?_ ?_
     ·refine run ⟨?_⟩
      exact rfl
     rintro x1 e' H' g9 a9 w9 ⟨rfl, he, rfl⟩ ok9 ext9
     have ok9 := ok9.forget [6, 7]
     rw [he] at ok9
     have ok9 := (ok9.toRaw (i := 6) (by decide) rfl).forget [6, 7]
     exact ⟨rfl, g9, .slice none 0 0, ok9, .nil, E6.trans ext9 (Nat.le_refl _)⟩
theorem held_calls (x : Its) (hx : Fine x) (s : S) (o6 o7 o8 o9 : Ob) (g : Gh) (w : World) (cargs : Array Value) (hI : Inv (cxL fx) g (HH x o6 o7 o8 o9) w) (ra : RepTs g (HH x o6 o7 o8 o9) [.d x.D, .ptr 5 0, str s] cargs.toList) :
 Calls Tryz.prog 95 cargs w fun e w' => ∃ xv g', e = .returned (.tuple #[xv, .bool (heldM x s).2]) ∧ Inv (cxL fx) g' (HH x o6 o7 o8 o9) w' ∧ Ext 10 g (HH x o6 o7 o8 o9) w g' (HH x o6 o7 o8 o9) w' ∧ Loose (cxL fx) g' w' w.heap.size 1 xv (heldM x s).1.length ((heldM x s).1.map strV) := by
 refine calls_of_wp f88f b88 ?_
 have ok0 : StOk (cxL fx) 74 g ⟨enterE [.d x.D, .ptr 5 0, str s], HH x o6 o7 o8 o9, 10⟩ { tmps := cargs ++ Array.replicate (Tryz.f95.ntmps - cargs.size) Go.undef, defers := [] } w :=
  ⟨hI, by rw [n88t]; exact enter_ok ra rfl (by show 3 ≤ 74; decide), rfl, by show 10 ≤ 10; decide⟩
 have ok0 := ok0.forget [0, 1, 2]
 rw [show keepE [0, 1, 2] (enterE [.d x.D, .ptr 5 0, str s]) = [(0, .d x.D), (1, .ptr 5 0), (2, str s)] from rfl] at ok0
 refine wp_mono (held_body x hx s o6 o7 o8 o9 g w _ hI.und ok0) fun e a1 w1 he => ?_
 obtain ⟨rfl, g1, xv, ok1, hl, E⟩ := he
 have goal : a1.defers = [] ∧ ∃ v, (results Tryz.f95 a1.tmps).run Tryz.prog w1 = .ok v w1 ∧ ∃ xv g', Ending.returned v = .returned (.tuple #[xv, .bool (heldM x s).2]) ∧ Inv (cxL fx) g' (HH x o6 o7 o8 o9) w1 ∧ Ext 10 g (HH x o6 o7 o8 o9) w g' (HH x o6 o7 o8 o9) w1 ∧ Loose (cxL fx) g' w1 w.heap.size 1 xv (heldM x s).1.length ((heldM x s).1.map strV) := by
  refine ⟨ok1.defers, ?_⟩
  obtain ⟨ys, y1, y2, y3⟩ := results_run (P := Tryz.prog) (fn := Tryz.f95) (vs := [.raw xv, boo (heldM x s).2]) ok1.inv ok1.env r88 (by decide) rfl
  simp only [RepTs, Rep, RepD, RepCs] at y2
  obtain ⟨z1, ys1, rfl, rfl, z2, ys2, rfl, h2, rfl⟩ := y2
  simp only [List.cons.injEq, and_true] at h2
  subst h2
  refine ⟨_, y1, _, g1.cut 10, rfl, ?_, ?_, hl.cut⟩
  ·have := ok1.inv.restrict (n := 10) (by show 10 ≤ 11; decide) (E.clean 10 (Nat.le_refl _) hI.und)
   exact this
  ·exact E.cut2 (n := 10) (by show 10 ≤ 10; decide) (by show 10 ≤ 11; decide) (Nat.le_refl _)
 exact goal
end
end Go.Vm.Ite
namespace Go.Vm.Ite
open Go Go.Vm Go.Proofs Go.Vm.Ip
set_option maxRecDepth 100000
noncomputable def c72 : Code := (Tryz.f55.body).getD .skip
theorem b72 : Tryz.f55.body = some c72 := by kernel_rfl
noncomputable def m72 : Code := cR (cR c72)
noncomputable def e72 : Code := cR m72
noncomputable def l72 : Code := cK (cK (cL e72))
noncomputable def kk72 : Code := cK (cR l72)
noncomputable def p72 : Code := cR (cR kk72)
noncomputable def z72 : Code := cA (cR (cR p72))
theorem q72a : c72 = .seq (cL c72) (.seq (cL (cR c72)) (.seq (.region (cId (cL m72)) (cOps (cL m72)) false) (.seq (.block 0 (.loop l72)) (cR e72)))) := by kernel_rfl
theorem q72b : l72 = .seq (.seq (.region (cId (cL (cL l72))) (cOps (cL (cL l72))) false) (.cond (.tmp 23) .skip (.exit 0))) (.block 1 (.seq (.region (cId (cL kk72)) (cOps (cL kk72)) false) (.seq (.region (cId (cL (cR kk72))) (cOps (cL (cR kk72))) false) p72))) := by kernel_rfl
theorem q72c : p72 = .seq (.seq (cL (cL p72)) (.cond (.tmp 37) (cA (cR (cL p72))) .skip)) (.seq (cL (cR p72)) (.cond (.tmp 41) z72 .skip)) := by kernel_rfl
theorem q72d : z72 = .seq (cL z72) (.seq (.region (cId (cL (cR z72))) (cOps (cL (cR z72))) false) (.region (cId (cR (cR z72))) (cOps (cR (cR z72))) false)) := by kernel_rfl
noncomputable def v72 : VCode := vR (vR (vR (vK (vR L55_0))))
theorem tE0 : tr Tryz.prog n50 (cL c72) = some (vL B55) := by kernel_rfl
theorem tE1 : tr Tryz.prog n50 (cL (cR c72)) = some (vL (vR B55)) := by kernel_rfl
theorem tE2 : tr Tryz.prog n50 (cR e72) = some (vR (vR (vR (vR B55)))) := by kernel_rfl
theorem tE3 : tr Tryz.prog n50 (cL (cL p72)) = some (vL (vL (vR (vR (vK (vR L55_0)))))) := by kernel_rfl
theorem tE4 : tr Tryz.prog n50 (cA (cR (cL p72))) = some (vA (vR (vL (vR (vR (vK (vR L55_0))))))) := by kernel_rfl
theorem tE5 : tr Tryz.prog n50 (cL (cR p72)) = some (vL v72) := by kernel_rfl
theorem tE6 : tr Tryz.prog n50 (cL z72) = some (vL (vA (vR v72))) := by kernel_rfl
theorem R2s : (cOps (cL m72)).size = 9 := by kernel_rfl
theorem R2o3 : ((cOps (cL m72))[3]?).map (fun o => (o.op, o.dst, o.guard)) = some (.call { callee := .value (.func 95), args := #[.tmp 15, .tmp 16, .tmp 17], argTypes := #[37, 66, 9] }, some 18, none) := by kernel_rfl
theorem R2o4 : ((cOps (cL m72))[4]?).map (fun o => (o.op, o.dst, o.guard)) = some (.move (.tmp 18), some 14, none) := by kernel_rfl
theorem R2o5 : ((cOps (cL m72))[5]?).map (fun o => (o.op, o.dst, o.guard)) = some (.extract (.tmp 14) 0, some 19, none) := by kernel_rfl
theorem R2o6 : ((cOps (cL m72))[6]?).map (fun o => (o.op, o.dst, o.guard)) = some (.extract (.tmp 14) 1, some 20, none) := by kernel_rfl
theorem R2o7 : ((cOps (cL m72))[7]?).map (fun o => (o.op, o.dst, o.guard)) = some (.assign (.tmp 19), some 8, none) := by kernel_rfl
theorem R2o8 : ((cOps (cL m72))[8]?).map (fun o => (o.op, o.dst, o.guard)) = some (.assign (.tmp 20), some 9, none) := by kernel_rfl
theorem R2v0 : trOpers Tryz.prog (cOps (cL m72)) (((cOps (cL m72)).toList.drop 0).take 3) = some (((vO (vL (vR (vR B55)))).drop 0).take 3) := by kernel_rfl
theorem R3s : (cOps (cL (cL l72))).size = 3 := by kernel_rfl
theorem R3o0 : ((cOps (cL (cL l72)))[0]?).map (fun o => (o.op, o.dst, o.guard)) = some (.move (.tmp 8), some 21, none) := by kernel_rfl
theorem R3o1 : ((cOps (cL (cL l72)))[1]?).map (fun o => (o.op, o.dst, o.guard)) = some (.call { callee := .builtin .len, args := #[.tmp 21], argTypes := #[97] }, some 22, none) := by kernel_rfl
theorem R3v2 : trOpers Tryz.prog (cOps (cL (cL l72))) (((cOps (cL (cL l72))).toList.drop 2).take 1) = some (((vO (vL (vL L55_0))).drop 2).take 1) := by kernel_rfl
theorem R4s : (cOps (cL kk72)).size = 7 := by kernel_rfl
theorem R4o0 : ((cOps (cL kk72))[0]?).map (fun o => (o.op, o.dst, o.guard)) = some (.move (.tmp 8), some 24, none) := by kernel_rfl
theorem R4o1 : ((cOps (cL kk72))[1]?).map (fun o => (o.op, o.dst, o.guard)) = some (.move (.tmp 8), some 25, none) := by kernel_rfl
theorem R4o2 : ((cOps (cL kk72))[2]?).map (fun o => (o.op, o.dst, o.guard)) = some (.call { callee := .builtin .len, args := #[.tmp 25], argTypes := #[97] }, some 26, none) := by kernel_rfl
theorem R4o4 : ((cOps (cL kk72))[4]?).map (fun o => (o.op, o.dst, o.guard)) = some (.indexAddr 97 (.tmp 24) (.tmp 27), some 28, none) := by kernel_rfl
theorem R4o5 : ((cOps (cL kk72))[5]?).map (fun o => (o.op, o.dst, o.guard)) = some (.load 9 (.tmp 28), some 29, none) := by kernel_rfl
theorem R4o6 : ((cOps (cL kk72))[6]?).map (fun o => (o.op, o.dst, o.guard)) = some (.assign (.tmp 29), some 10, none) := by kernel_rfl
theorem R4v3 : trOpers Tryz.prog (cOps (cL kk72)) (((cOps (cL kk72)).toList.drop 3).take 1) = some (((vO (vL (vK (vR L55_0)))).drop 3).take 1) := by kernel_rfl
theorem R5s : (cOps (cL (cR kk72))).size = 6 := by kernel_rfl
theorem R5o0 : ((cOps (cL (cR kk72)))[0]?).map (fun o => (o.op, o.dst, o.guard)) = some (.move (.tmp 8), some 30, none) := by kernel_rfl
theorem R5o1 : ((cOps (cL (cR kk72)))[1]?).map (fun o => (o.op, o.dst, o.guard)) = some (.move (.tmp 8), some 31, none) := by kernel_rfl
theorem R5o2 : ((cOps (cL (cR kk72)))[2]?).map (fun o => (o.op, o.dst, o.guard)) = some (.call { callee := .builtin .len, args := #[.tmp 31], argTypes := #[97] }, some 32, none) := by kernel_rfl
theorem R5o4 : ((cOps (cL (cR kk72)))[4]?).map (fun o => (o.op, o.dst, o.guard)) = some (.slice 97 (.tmp 30) none (some (.tmp 33)) none, some 34, none) := by kernel_rfl
theorem R5o5 : ((cOps (cL (cR kk72)))[5]?).map (fun o => (o.op, o.dst, o.guard)) = some (.assign (.tmp 34), some 8, none) := by kernel_rfl
theorem R5v3 : trOpers Tryz.prog (cOps (cL (cR kk72))) (((cOps (cL (cR kk72))).toList.drop 3).take 1) = some (((vO (vL (vR (vK (vR L55_0))))).drop 3).take 1) := by kernel_rfl
theorem R10s : (cOps (cL (cR z72))).size = 9 := by kernel_rfl
theorem R10o3 : ((cOps (cL (cR z72)))[3]?).map (fun o => (o.op, o.dst, o.guard)) = some (.call { callee := .value (.func 95), args := #[.tmp 45, .tmp 46, .tmp 47], argTypes := #[37, 66, 9] }, some 48, none) := by kernel_rfl
theorem R10o4 : ((cOps (cL (cR z72)))[4]?).map (fun o => (o.op, o.dst, o.guard)) = some (.move (.tmp 48), some 44, none) := by kernel_rfl
theorem R10o5 : ((cOps (cL (cR z72)))[5]?).map (fun o => (o.op, o.dst, o.guard)) = some (.extract (.tmp 44) 0, some 49, none) := by kernel_rfl
theorem R10o6 : ((cOps (cL (cR z72)))[6]?).map (fun o => (o.op, o.dst, o.guard)) = some (.extract (.tmp 44) 1, some 50, none) := by kernel_rfl
theorem R10o7 : ((cOps (cL (cR z72)))[7]?).map (fun o => (o.op, o.dst, o.guard)) = some (.assign (.tmp 49), some 11, none) := by kernel_rfl
theorem R10o8 : ((cOps (cL (cR z72)))[8]?).map (fun o => (o.op, o.dst, o.guard)) = some (.assign (.tmp 50), some 12, none) := by kernel_rfl
theorem R10v0 : trOpers Tryz.prog (cOps (cL (cR z72))) (((cOps (cL (cR z72))).toList.drop 0).take 3) = some (((vO (vL (vR (vA (vR v72))))).drop 0).take 3) := by kernel_rfl
theorem R11s : (cOps (cR (cR z72))).size = 4 := by kernel_rfl
theorem R11a : trOpers Tryz.prog (cOps (cR (cR z72))) (((cOps (cR (cR z72))).toList.drop 0).take 2) = some ((vO (vR (vR (vA (vR v72))))).take 2) := by kernel_rfl
theorem R11b : trOpers Tryz.prog (cOps (cR (cR z72))) (((cOps (cR (cR z72))).toList.drop 3).take 1) = some ((vO (vR (vR (vA (vR v72))))).drop 3) := by kernel_rfl
theorem R11c : ((cOps (cR (cR z72)))[2]?).map (fun o => (o.op, o.dst, o.guard)) = some (.call { callee := .builtin .append, args := #[.tmp 51, .tmp 52], argTypes := #[97, 97] }, some 53, none) := by kernel_rfl
theorem sz9 : sizeT Tryz.prog 9 = some 1 := by kernel_rfl
theorem sh9 : shapeT Tryz.prog 9 = some none := by kernel_rfl
theorem f88b : Tryz.f95.body.isNone = false := by kernel_rfl
theorem f88n : (Tryz.f95.name == "runtime.NumGoroutine") = false := by kernel_rfl
section
variable {fx : Nat → Option Obj}
abbrev H8 (x : Its) (o6 o7 : Ob) : Hp := [IB x, IB x, .map (finM (nS x)), .map (finM (nE x)), .map (finM (nF x)), .box [.mp 2, .mp 3, .mp 4], o6, o7]
abbrev HE (x : Its) (o6 o7 : Ob) (seen : List S) : Hp := HH x o6 o7 (IB x) (.map (seenM seen))
def EInv (fx : Nat → Option Obj) (x : Its) (s : S) (o6 o7 : Ob) (g0 : Gh) (ww : World) (k : Nat) (a : Act) (w : World) : Prop :=
 ∃ g xv seen todo, k = todo.length + owed x seen (nS x ++ nE x) ∧ k ≤ 4096 ∧ Srch x s seen todo ∧ StOk (cxL fx) 54 g ⟨[(1, .ptr 5 0), (2, str s), (3, .ptr 8 0), (7, .mp 9), (8, .raw xv)], HE x o6 o7 seen, 8⟩ a w ∧ Loose (cxL fx) g w ww.heap.size 1 xv todo.length (todo.map strV) ∧ Ext 8 g0 (H8 x o6 o7) ww g (HE x o6 o7 seen) w
set_option maxHeartbeats 4000000 in
theorem loopE (x : Its) (hx : Fine x) (hsm : Small x) (s : S) (o6 o7 : Ob) (g0 : Gh) (ww : World) {Q : Exit → Act → World → Prop}
 (hq : ∀ g a w seen, ¬ Gets x s s → StOk (cxL fx) 54 g ⟨[(2, str s)], HE x o6 o7 seen, 8⟩ a w → Ext 8 g0 (H8 x o6 o7) ww g (HE x o6 o7 seen) w → Q .normal a w)
 (hr : ∀ g a w seen, Gets x s s → StOk (cxL fx) 54 g ⟨[(6, boo true)], HE x o6 o7 seen, 8⟩ a w → Ext 8 g0 (H8 x o6 o7) ww g (HE x o6 o7 seen) w → Q .ret a w)
 (k : Nat) (a : Act) (w : World) (h : EInv fx x s o6 o7 g0 ww k a w) : (Code.block 0 (.loop l72)).wp Tryz.prog Q a w := by
 have hT := tOk fx
 have hS := ev_sound hT mixed
 apply wp_block
 refine wp_loop_dec (EInv fx x s o6 o7 g0 ww) ?_ h
 rintro k a w ⟨g, xv, seen, todo, hk, hk2, hsr, ok, hl, E0⟩
 rw [q72b]
 apply wp_seq
 apply wp_seq
 obtain ⟨ad, c, hxv⟩ := hl.len
 apply wp_region
 rw [R3s, range3]
 have hg8 := (ok.env.2 8 (by decide)).1
 simp only [getE_miss (show (1 : Nat) ≠ 8 by decide), getE_miss (show (2 : Nat) ≠ 8 by decide), getE_miss (show (3 : Nat) ≠ 8 by decide), getE_miss (show (7 : Nat) ≠ 8 by decide), getE_hit, Rep] at hg8
 refine op_put R3o0 ok (v := .raw xv) (fun o ho => run_mv ho) (by decide) hg8 rfl fun ok1 => ?_
 have hg21 := (ok1.env.2 21 (by decide)).1
 simp only [putE, getE_hit, Rep] at hg21
 refine op_put R3o1 ok1 (v := i64 todo.length) (fun o ho => run_lenR u66 (hg21.trans hxv) ho) (by decide) (int_rep _ _) rfl fun ok2 => ?_
 show Go.wpOps _ _ _ (List.range' 2 1 ++ []) _ _
 refine ops_mid hS R3v2 (by kernel_rfl) (by rw [R3s]; decide) (s' := ⟨[(23, boo (decide ((todo.length : Int) > 0))), (22, i64 todo.length), (21, .raw xv), (1, .ptr 5 0), (2, str s), (3, .ptr 8 0), (7, .mp 9), (8, .raw xv)], HE x o6 o7 seen, 8⟩) rfl ok2 fun g3 a3 w3 ok3 ext3 => ?_
 have hl3 := hl.ext ext3
 have E3 := E0.trans ext3 (Nat.le_refl _)
 show (Code.cond _ _ _).wp _ _ _ _
 refine Go.wp_cond_split (cond_val ok3 (i := 23) (by decide) rfl) (fun hc => ?_) (fun hc => ?_)
 ·have hpos : 0 < todo.length := by have := of_decide_eq_true hc; omega
  obtain ⟨td, y, rfl⟩ : ∃ td y, todo = td ++ [y] := ⟨todo.dropLast, todo.getLast (List.length_pos_iff.1 hpos), (List.dropLast_concat_getLast _).symm⟩
  have ok3 := ok3.forget [1, 2, 3, 7, 8]
  rw [show keepE [1, 2, 3, 7, 8] _ = [(1, .ptr 5 0), (2, str s), (3, .ptr 8 0), (7, .mp 9), (8, .raw xv)] from rfl] at ok3
  clear ok ok1 ok2 hg8 hg21
  have hlen : (td ++ [y]).length = td.length + 1 := by simp
  have hlb : td.length + 1 ≤ 4096 := by omega
  apply wp_skip
  show (Code.block 1 _).wp _ _ _ _
  apply wp_block
  apply wp_seq
  apply wp_region
  rw [R4s, show List.range 7 = [0, 1, 2, 3, 4, 5, 6] from rfl]
  refine op_put R4o0 ok3 (v := .raw xv) (fun o ho => run_mv ho) (by decide) (repOf ok3 (i := 8) (by decide) rfl) rfl fun ok4 => ?_
  refine op_put R4o1 ok4 (v := .raw xv) (fun o ho => run_mv ho) (by decide) (repOf ok4 (i := 8) (by decide) rfl) rfl fun ok5 => ?_
  refine op_put R4o2 ok5 (v := i64 (td ++ [y]).length) (fun o ho => run_lenR u66 ((valR ok5 (i := 25) (by decide) rfl).trans hxv) ho) (by decide) (int_rep _ _) rfl fun ok6 => ?_
  show Go.wpOps _ _ _ (List.range' 3 1 ++ [4, 5, 6]) _ _
  have hw : IntKind.i64.wrap (((td ++ [y]).length : Int) - 1) = (td.length : Int) := by rw [hlen, i64w (by omega)]; omega
  refine ops_mid hS R4v3 (by kernel_rfl) (by rw [R4s]; decide) (s' := ⟨[(27, i64 td.length), (26, i64 (td ++ [y]).length), (25, .raw xv), (24, .raw xv), (1, .ptr 5 0), (2, str s), (3, .ptr 8 0), (7, .mp 9), (8, .raw xv)], HE x o6 o7 seen, 8⟩) (by rw [← hw]; rfl) ok6 fun g7 a7 w7 ok7 ext7 => ?_
  have hl7 := hl3.ext ext7
  have E7 := E3.trans ext7 (Nat.le_refl _)
  obtain ⟨b, cap, cur, e, hx1, hh, hy⟩ := hl7.get (i := td.length) (y := strV y) (by rw [List.map_append, List.getElem?_append_right (by simp)]; simp)
  refine op_put R4o4 ok7 (v := .raw (.pointer (some ⟨b, td.length, none⟩))) (fun o ho => run_iadrR u66 sz9 ((valR ok7 (i := 24) (by decide) rfl).trans hx1) (valI ok7 (i := 27) (by decide) rfl) (by omega) ho) (by decide) (by simp only [Rep]) rfl fun ok8 => ?_
  refine op_put R4o5 ok8 (v := str y) (fun o ho => run_ldR sh9 (valR ok8 (i := 28) (by decide) rfl) hh hy ho) (by decide) (by simp only [Rep, RepD, RepCs]; rfl) rfl fun ok9 => ?_
  refine op_put R4o6 ok9 (v := str y) (fun o ho => run_as ho) (by decide) (repOf ok9 (i := 29) (by decide) rfl) rfl fun ok10 => ?_
  have ok10 := ok10.forget [1, 2, 3, 7, 8, 10]
  rw [show keepE [1, 2, 3, 7, 8, 10] _ = [(1, .ptr 5 0), (2, str s), (3, .ptr 8 0), (7, .mp 9), (8, .raw xv), (10, str y)] from rfl] at ok10
  clear ok4 ok5 ok6 ok7 ok8 ok9
  show (Code.seq _ _).wp _ _ _ _
  apply wp_seq
  apply wp_region
  rw [R5s, show List.range 6 = [0, 1, 2, 3, 4, 5] from rfl]
  refine op_put R5o0 ok10 (v := .raw xv) (fun o ho => run_mv ho) (by decide) (repOf ok10 (i := 8) (by decide) rfl) rfl fun ok11 => ?_
  refine op_put R5o1 ok11 (v := .raw xv) (fun o ho => run_mv ho) (by decide) (repOf ok11 (i := 8) (by decide) rfl) rfl fun ok12 => ?_
  refine op_put R5o2 ok12 (v := i64 (td ++ [y]).length) (fun o ho => run_lenR u66 ((valR ok12 (i := 31) (by decide) rfl).trans hxv) ho) (by decide) (int_rep _ _) rfl fun ok13 => ?_
  show Go.wpOps _ _ _ (List.range' 3 1 ++ [4, 5]) _ _
  refine ops_mid hS R5v3 (by kernel_rfl) (by rw [R5s]; decide) (s' := ⟨[(33, i64 td.length), (32, i64 (td ++ [y]).length), (31, .raw xv), (30, .raw xv), (1, .ptr 5 0), (2, str s), (3, .ptr 8 0), (7, .mp 9), (8, .raw xv), (10, str y)], HE x o6 o7 seen, 8⟩) (by rw [← hw]; rfl) ok13 fun g14 a14 w14 ok14 ext14 => ?_
  have hl14 := hl7.ext ext14
  have E14 := E7.trans ext14 (Nat.le_refl _)
  rw [hxv] at hl14
  obtain ⟨hmc, hl15⟩ := hl14.pop (m := td.length) (by omega)
  rw [show ((td ++ [y]).map strV).take td.length = td.map strV by rw [List.map_append]; exact List.take_left' (by simp)] at hl15
  revert hl15
  obtain ⟨xv2, hxv2⟩ : ∃ xv2, xv2 = Value.slice (if c = 0 then ad else ad.map (·.add 0)) td.length c := ⟨_, rfl⟩
  rw [← hxv2]
  intro hl15
  refine op_put R5o4 ok14 (v := .raw xv2) (x := xv2) (fun o ho => by rw [hxv2]; exact run_slcR u66 sz9 ((valR ok14 (i := 30) (by decide) rfl).trans hxv) (valI ok14 (i := 33) (by decide) rfl) hmc ho) (by decide) (by simp only [Rep]) rfl fun ok15 => ?_
  refine op_put R5o5 ok15 (v := .raw xv2) (fun o ho => run_as ho) (by decide) (repOf ok15 (i := 34) (by decide) rfl) rfl fun ok16 => ?_
  have ok16 := ok16.forget [1, 2, 3, 7, 8, 10]
  rw [show keepE [1, 2, 3, 7, 8, 10] _ = [(1, .ptr 5 0), (2, str s), (3, .ptr 8 0), (7, .mp 9), (8, .raw xv2), (10, str y)] from rfl] at ok16
  clear ok10 ok11 ok12 ok13 ok14 ok15
  show Code.wp _ p72 _ _ _
  rw [q72c]
  apply wp_seq
  apply wp_seq
  refine chunk hT mixed tE3 (by kernel_rfl) ok16 (R := fun x1 e' H' => x1 = .nrm ∧ keepE [1, 2, 3, 7, 8, 10, 37] e' = [(1, .ptr 5 0), (2, str s), (3, .ptr 8 0), (7, .mp 9), (8, .raw xv2), (10, str y), (37, boo (decide (y = s)))] ∧ H' = HE x o6 o7 seen) ?_ ?_
  ·refine run ⟨?_⟩
   exact rfl
  rintro x1 e' H' g17 a17 w17 ⟨rfl, he, rfl⟩ ok17 ext17
  have ok17 := ok17.forget [1, 2, 3, 7, 8, 10, 37]
  rw [he] at ok17
  have hl17 := hl15.ext ext17
  have E17 := E14.trans ext17 (Nat.le_refl _)
  clear he ok16
  show (Code.cond _ _ _).wp _ _ _ _
  refine Go.wp_cond_split (cond_val ok17 (i := 37) (by decide) rfl) (fun hc2 => ?_) (fun hc2 => ?_)
  ·have hys : y = s := of_decide_eq_true hc2
   refine chunk hT mixed tE4 (by kernel_rfl) ok17 (R := fun x1 e' H' => x1 = .ret ∧ keepE [6] e' = [(6, boo true)] ∧ H' = HE x o6 o7 seen) ?_ ?_
   ·refine run ⟨?_⟩
    exact rfl
   rintro x1 e' H' g18 a18 w18 ⟨rfl, he, rfl⟩ ok18 ext18
   have ok18 := ok18.forget [6]
   rw [he] at ok18
   exact hr g18 a18 w18 seen (by have := hsr.r2 y (by simp); rwa [hys] at this) ok18 (E17.trans ext18 (Nat.le_refl _))
  ·have hys : ¬ y = s := of_decide_eq_false hc2
   apply wp_skip
   show (Code.seq _ _).wp _ _ _ _
   apply wp_seq
   have h1 := seenM_keys seen
   have h2 := seenM_find y seen
   have h3 := seenM_set y seen
   by_cases hm : y ∈ seen
   ·rw [if_pos hm] at h2
    refine chunk hT mixed tE5 (by kernel_rfl) ok17 (R := fun x1 e' H' => x1 = .nrm ∧ keepE [1, 2, 3, 7, 8, 41] e' = [(1, .ptr 5 0), (2, str s), (3, .ptr 8 0), (7, .mp 9), (8, .raw xv2), (41, boo (decide ((1 : Int) = 0)))] ∧ H' = HE x o6 o7 seen) ?_ ?_
    ·repeat' (first | refine run ⟨?_⟩ | refine mg h1 h2 ?_ | fail)
     exact rfl
    rintro x1 e' H' g18 a18 w18 ⟨rfl, he, rfl⟩ ok18 ext18
    have ok18 := ok18.forget [1, 2, 3, 7, 8, 41]
    rw [he] at ok18
    show (Code.cond _ _ _).wp _ _ _ _
    refine Go.wp_cond_false (cond_val ok18 (i := 41) (b := false) (by decide) rfl) ?_
    apply wp_skip
    exact ⟨td.length + owed x seen (nS x ++ nE x), by omega, g18, xv2, seen, td, rfl, by omega, hsr.old hm, ok18.forget [1, 2, 3, 7, 8], hl17.ext ext18, E17.trans ext18 (Nat.le_refl _)⟩
   ·rw [if_neg hm] at h2
    have h3 := h3 hm
    refine chunk hT mixed tE5 (by kernel_rfl) ok17 (R := fun x1 e' H' => x1 = .nrm ∧ keepE [1, 2, 3, 7, 8, 10, 41] e' = [(1, .ptr 5 0), (2, str s), (3, .ptr 8 0), (7, .mp 9), (8, .raw xv2), (10, str y), (41, boo (decide ((0 : Int) = 0)))] ∧ H' = HE x o6 o7 seen) ?_ ?_
    ·repeat' (first | refine run ⟨?_⟩ | refine mg h1 h2 ?_ | fail)
     exact rfl
    rintro x1 e' H' g18 a18 w18 ⟨rfl, he, rfl⟩ ok18 ext18
    have ok18 := ok18.forget [1, 2, 3, 7, 8, 10, 41]
    rw [he] at ok18
    have hl18 := hl17.ext ext18
    have E18 := E17.trans ext18 (Nat.le_refl _)
    show (Code.cond _ _ _).wp _ _ _ _
    refine Go.wp_cond_true (cond_val ok18 (i := 41) (b := true) (by decide) rfl) ?_
    rw [q72d]
    apply wp_seq
    refine chunk hT mixed tE6 (by kernel_rfl) ok18 (R := fun x1 e' H' => x1 = .nrm ∧ keepE [1, 2, 3, 7, 8, 10] e' = [(1, .ptr 5 0), (2, str s), (3, .ptr 8 0), (7, .mp 9), (8, .raw xv2), (10, str y)] ∧ H' = HE x o6 o7 (seen ++ [y])) ?_ ?_
    ·repeat' (first | refine run ⟨?_⟩ | refine And.intro h1 ?_ | fail)
     show [_, _, _, _, _, _, _, _, _, Ob.map _] = _
     rw [h3]
    rintro x1 e' H' g19 a19 w19 ⟨rfl, he, rfl⟩ ok19 ext19
    have ok19 := ok19.forget [1, 2, 3, 7, 8, 10]
    rw [he] at ok19
    have hl19 := hl18.ext ext19
    have E19 := E18.trans ext19 (Nat.le_refl _)
    show (Code.seq _ _).wp _ _ _ _
    apply wp_seq
    apply wp_region
    rw [R10s, show List.range 9 = List.range' 0 3 ++ [3, 4, 5, 6, 7, 8] from rfl]
    refine ops_mid hS R10v0 (by kernel_rfl) (by rw [R10s]; decide) (s' := ⟨[(47, str y), (46, .ptr 5 0), (45, .d x.D), (1, .ptr 5 0), (2, str s), (3, .ptr 8 0), (7, .mp 9), (8, .raw xv2), (10, str y)], HE x o6 o7 (seen ++ [y]), 8⟩) rfl ok19 fun g20 a20 w20 ok20 ext20 => ?_
    have hl20 := hl19.ext ext20
    have E20 := E19.trans ext20 (Nat.le_refl _)
    have hra : RepTs g20 (HE x o6 o7 (seen ++ [y])) [.d x.D, .ptr 5 0, str y] ((#[Operand.tmp 45, Operand.tmp 46, Operand.tmp 47].map a20.eval).toList) := by
     simp only [List.map_toArray, List.map_cons, List.map_nil, RepTs]
     exact ⟨_, _, rfl, repOf ok20 (i := 45) (by decide) rfl, _, _, rfl, repOf ok20 (i := 46) (by decide) rfl, _, _, rfl, repOf ok20 (i := 47) (by decide) rfl, rfl⟩
    refine op_callE f88f f88b f88n R10o3 (held_calls x hx y o6 o7 (IB x) (.map (seenM (seen ++ [y]))) g20 w20 _ ok20.inv hra) fun e w21 he => ?_
    obtain ⟨xl, g21, rfl, hI21, ext21, hl21⟩ := he
    refine ⟨_, rfl, ?_⟩
    have ok21 := ok20.put (d := some 48) (v := .raw (.tuple #[xl, .bool (heldM x y).2])) (x := .tuple #[xl, .bool (heldM x y).2]) (fun k hk => by cases hk; decide) hI21 (by simp only [Rep]) rfl (ext21.le (by show 8 ≤ 10; decide))
    have hl22 := hl20.ext ext21
    have E22 := E20.trans ext21 (by show 8 ≤ 10; decide)
    refine op_put R10o4 ok21 (v := .raw (.tuple #[xl, .bool (heldM x y).2])) (fun o ho => run_mv ho) (by decide) (repOf ok21 (i := 48) (by decide) rfl) rfl fun ok22 => ?_
    refine op_put R10o5 ok22 (v := .raw xl) (x := xl) (fun o ho => run_ex ho (valR ok22 (i := 44) (by decide) rfl) rfl) (by decide) (by simp only [Rep]) rfl fun ok23 => ?_
    refine op_put R10o6 ok23 (v := boo (heldM x y).2) (x := .bool (heldM x y).2) (fun o ho => run_ex ho (valR ok23 (i := 44) (by decide) rfl) rfl) (by decide) (bool_rep _) rfl fun ok24 => ?_
    refine op_put R10o7 ok24 (v := .raw xl) (fun o ho => run_as ho) (by decide) (repOf ok24 (i := 49) (by decide) rfl) rfl fun ok25 => ?_
    refine op_put R10o8 ok25 (v := boo (heldM x y).2) (fun o ho => run_as ho) (by decide) (repOf ok25 (i := 50) (by decide) rfl) rfl fun ok26 => ?_
    have ok26 := ok26.forget [1, 2, 3, 7, 8, 11]
    rw [show keepE [1, 2, 3, 7, 8, 11] _ = [(1, .ptr 5 0), (2, str s), (3, .ptr 8 0), (7, .mp 9), (8, .raw xv2), (11, .raw xl)] from rfl] at ok26
    have how := owed_see x hm
    have hhs := held_small hsm y
    show (Code.region _ _ _).wp _ _ _ _
    refine wp_app hS R11s R11a R11b (by kernel_rfl) (by kernel_rfl) R11c (by decide) u66 iStr_e zStr_e zStr_s ok26 (s1 := ⟨[(52, .raw xl), (51, .raw xv2), (1, .ptr 5 0), (2, str s), (3, .ptr 8 0), (7, .mp 9), (8, .raw xv2), (11, .raw xl)], HE x o6 o7 (seen ++ [y]), 8⟩) rfl (xv := xv2) rfl (by decide) (w0 := ww) (by rw [iStr_s]; exact hl22) E22 (m3 := (heldM x y).1.length) (vs := (heldM x y).1.map strV) (fun g' a' w' ok' ext' => by rw [iStr_s, valR ok' (i := 52) (by decide) rfl]; exact (hl21.ext ext').stand) (by intro u hu; obtain ⟨q, _, rfl⟩ := List.mem_map.1 hu; rfl) (by rw [iStr_b]; constructor <;> omega) (s2 := fun xv' => ⟨[(8, .raw xv'), (53, .raw xv'), (52, .raw xl), (51, .raw xv2), (1, .ptr 5 0), (2, str s), (3, .ptr 8 0), (7, .mp 9), (8, .raw xv2), (11, .raw xl)], HE x o6 o7 (seen ++ [y]), 8⟩) (fun _ => rfl) ?_
    intro xv' g27 a27 w27 ok27 hl27 E27
    rw [iStr_s] at hl27
    refine ⟨(td ++ (heldM x y).1).length + owed x (seen ++ [y]) (nS x ++ nE x), by rw [List.length_append]; omega, g27, xv', seen ++ [y], td ++ (heldM x y).1, rfl, by rw [List.length_append]; omega, hsr.new hys, ok27.forget [1, 2, 3, 7, 8], ?_, E27⟩
    rw [List.length_append, List.map_append]
    exact hl27
 ·apply wp_exit
  have h0 : todo = [] := by
   have := of_decide_eq_false hc
   apply List.eq_nil_of_length_eq_zero; omega
  subst h0
  exact hq g3 a3 w3 seen hsr.end (ok3.forget [2]) E3
def EQ (fx : Nat → Option Obj) (x : Its) (s : S) (o6 o7 : Ob) (g0 : Gh) (ww : World) : Exit → Act → World → Prop := fun e a w => e = .ret ∧ ∃ g seen, StOk (cxL fx) 54 g ⟨[(6, boo (endB x s))], HE x o6 o7 seen, 8⟩ a w ∧ Ext 8 g0 (H8 x o6 o7) ww g (HE x o6 o7 seen) w
set_option maxHeartbeats 4000000 in
theorem end_body (x : Its) (hx : Fine x) (hsm : Small x) (s : S) (o6 o7 : Ob) (g : Gh) (w : World) (a : Act) (ok : StOk (cxL fx) 54 g ⟨[(0, .d x.D), (1, .ptr 5 0), (2, str s)], H8 x o6 o7, 8⟩ a w) : c72.wp Tryz.prog (EQ fx x s o6 o7 g w) a w := by
 have hT := tOk fx
 have hS := ev_sound hT mixed
 rw [q72a]
 apply wp_seq
 refine chunk hT mixed tE0 (by kernel_rfl) ok (R := fun x1 e' H' => x1 = .nrm ∧ keepE [1, 2, 3] e' = [(1, .ptr 5 0), (2, str s), (3, .ptr 8 0)] ∧ H' = H8 x o6 o7 ++ [IB x]) ?_ ?_
 ·refine run ⟨?_⟩
  exact rfl
 rintro x1 e' H' g1 a1 w1 ⟨rfl, he, rfl⟩ ok1 ext1
 have ok1 := ok1.forget [1, 2, 3]
 rw [he] at ok1
 clear he ok
 show (Code.seq _ _).wp _ _ _ _
 apply wp_seq
 refine chunk hT mixed tE1 (by kernel_rfl) ok1 (R := fun x1 e' H' => x1 = .nrm ∧ keepE [1, 2, 3, 7] e' = [(1, .ptr 5 0), (2, str s), (3, .ptr 8 0), (7, .mp 9)] ∧ H' = HE x o6 o7 []) ?_ ?_
 ·refine run ⟨?_⟩
  exact rfl
 rintro x1 e' H' g2 a2 w2 ⟨rfl, he, rfl⟩ ok19 ext2
 have ok19 := ok19.forget [1, 2, 3, 7]
 rw [he] at ok19
 have E19 := ext1.trans ext2 (Nat.le_refl _)
 clear he ok1
 show (Code.seq _ _).wp _ _ _ _
 apply wp_seq
 apply wp_region
 rw [R2s, show List.range 9 = List.range' 0 3 ++ [3, 4, 5, 6, 7, 8] from rfl]
 refine ops_mid hS R2v0 (by kernel_rfl) (by rw [R2s]; decide) (s' := ⟨[(17, str s), (16, .ptr 5 0), (15, .d x.D), (1, .ptr 5 0), (2, str s), (3, .ptr 8 0), (7, .mp 9)], HE x o6 o7 [], 8⟩) rfl ok19 fun g20 a20 w20 ok20 ext20 => ?_
 have E20 := E19.trans ext20 (Nat.le_refl _)
 have hra : RepTs g20 (HE x o6 o7 []) [.d x.D, .ptr 5 0, str s] ((#[Operand.tmp 15, Operand.tmp 16, Operand.tmp 17].map a20.eval).toList) := by
  simp only [List.map_toArray, List.map_cons, List.map_nil, RepTs]
  exact ⟨_, _, rfl, repOf ok20 (i := 15) (by decide) rfl, _, _, rfl, repOf ok20 (i := 16) (by decide) rfl, _, _, rfl, repOf ok20 (i := 17) (by decide) rfl, rfl⟩
 refine op_callE f88f f88b f88n R2o3 (held_calls x hx s o6 o7 (IB x) (.map (seenM [])) g20 w20 _ ok20.inv hra) fun e w21 he => ?_
 obtain ⟨xl, g21, rfl, hI21, ext21, hl21⟩ := he
 refine ⟨_, rfl, ?_⟩
 have ok21 := ok20.put (d := some 18) (v := .raw (.tuple #[xl, .bool (heldM x s).2])) (x := .tuple #[xl, .bool (heldM x s).2]) (fun k hk => by cases hk; decide) hI21 (by simp only [Rep]) rfl (ext21.le (by show 8 ≤ 10; decide))
 have E22 := E20.trans ext21 (by show 8 ≤ 10; decide)
 refine op_put R2o4 ok21 (v := .raw (.tuple #[xl, .bool (heldM x s).2])) (fun o ho => run_mv ho) (by decide) (repOf ok21 (i := 18) (by decide) rfl) rfl fun ok22 => ?_
 refine op_put R2o5 ok22 (v := .raw xl) (x := xl) (fun o ho => run_ex ho (valR ok22 (i := 14) (by decide) rfl) rfl) (by decide) (by simp only [Rep]) rfl fun ok23 => ?_
 refine op_put R2o6 ok23 (v := boo (heldM x s).2) (x := .bool (heldM x s).2) (fun o ho => run_ex ho (valR ok23 (i := 14) (by decide) rfl) rfl) (by decide) (bool_rep _) rfl fun ok24 => ?_
 refine op_put R2o7 ok24 (v := .raw xl) (fun o ho => run_as ho) (by decide) (repOf ok24 (i := 19) (by decide) rfl) rfl fun ok25 => ?_
 refine op_put R2o8 ok25 (v := boo (heldM x s).2) (fun o ho => run_as ho) (by decide) (repOf ok25 (i := 20) (by decide) rfl) rfl fun ok26 => ?_
 have ok26 := ok26.forget [1, 2, 3, 7, 8]
 rw [show keepE [1, 2, 3, 7, 8] _ = [(1, .ptr 5 0), (2, str s), (3, .ptr 8 0), (7, .mp 9), (8, .raw xl)] from rfl] at ok26
 have hhs := held_small hsm s
 have hob := owed_bound hsm [] (nS x ++ nE x)
 have hnl : (nS x ++ nE x).length ≤ 128 := by
  have h1 := hsm.ss
  have h2 := hsm.es
  simp only [List.length_append, nS, nE, List.length_map]; omega
 show (Code.seq _ _).wp _ _ _ _
 apply wp_seq
 have hle : w.heap.size ≤ w20.heap.size := E20.size
 have hl22 : Loose (cxL fx) g21 w21 w.heap.size 1 xl (heldM x s).1.length ((heldM x s).1.map strV) := hl21.older hle
 refine loopE x hx hsm s o6 o7 g w (fun g3 a3 w3 seen hn ok3 E3 => ?_) (fun g3 a3 w3 seen hy ok3 E3 => ?_) _ _ _ ⟨g21, xl, [], (heldM x s).1, rfl, by omega, Srch.start x s, ok26, hl22, E22⟩
 ·show Code.wp _ (cR e72) _ _ _
  refine chunk hT mixed tE2 (by kernel_rfl) ok3 (R := fun x1 e' H' => x1 = .ret ∧ keepE [6] e' = [(6, boo false)] ∧ H' = HE x o6 o7 seen) ?_ ?_
  ·refine run ⟨?_⟩
   exact rfl
  rintro x1 e' H' g4 a4 w4 ⟨rfl, he, rfl⟩ ok4 ext4
  have ok4 := ok4.forget [6]
  rw [he] at ok4
  exact ⟨rfl, g4, seen, by rw [endB_f hn]; exact ok4, E3.trans ext4 (Nat.le_refl _)⟩
 ·exact ⟨rfl, g3, seen, by rw [endB_t hy]; exact ok3, E3⟩
theorem r72 : trRes Tryz.prog Tryz.f55.results.toList = some [.tmp 6] := by kernel_rfl
theorem f72f : Tryz.prog.funcs[55]? = some Tryz.f55 := by kernel_rfl
theorem n72t : Tryz.f55.ntmps = 54 := by kernel_rfl
theorem end_spec (x : Its) (hx : Fine x) (hsm : Small x) (s : S) (o6 o7 : Ob) : FnSpec Tryz.prog (cxL fx) 55 [.d x.D, .ptr 5 0, str s] (H8 x o6 o7) (boo (endB x s)) (H8 x o6 o7) := by
 refine ⟨⟨Tryz.f55, f72f, by kernel_rfl, by kernel_rfl⟩, fun g w cargs hI ra ua => ?_⟩
 refine calls_of_wp f72f b72 ?_
 have ok0 : StOk (cxL fx) 54 g ⟨enterE [.d x.D, .ptr 5 0, str s], H8 x o6 o7, 8⟩ { tmps := cargs ++ Array.replicate (Tryz.f55.ntmps - cargs.size) Go.undef, defers := [] } w :=
  ⟨hI, by rw [n72t]; exact enter_ok ra ua (by show 3 ≤ 54; decide), rfl, by show 8 ≤ 8; decide⟩
 have ok0 := ok0.forget [0, 1, 2]
 rw [show keepE [0, 1, 2] (enterE [.d x.D, .ptr 5 0, str s]) = [(0, .d x.D), (1, .ptr 5 0), (2, str s)] from rfl] at ok0
 refine wp_mono (end_body x hx hsm s o6 o7 g w _ ok0) fun e a1 w1 he => ?_
 obtain ⟨rfl, g1, seen, ok1, E⟩ := he
 have goal : a1.defers = [] ∧ ∃ v, (results Tryz.f55 a1.tmps).run Tryz.prog w1 = .ok v w1 ∧ ∃ g' z, Ending.returned v = .returned z ∧ Inv (cxL fx) g' (H8 x o6 o7) w1 ∧ Rep g' (H8 x o6 o7) (boo (endB x s)) z ∧ (boo (endB x s)).und (H8 x o6 o7).length = true ∧ Ext (H8 x o6 o7).length g (H8 x o6 o7) w g' (H8 x o6 o7) w1 := by
  refine ⟨ok1.defers, ?_⟩
  obtain ⟨ys, y1, y2, y3⟩ := results_run (P := Tryz.prog) (fn := Tryz.f55) (vs := [boo (endB x s)]) ok1.inv ok1.env r72 (by decide) rfl
  simp only [RepTs, Rep, RepD, RepCs] at y2
  obtain ⟨z1, ys1, rfl, h2, rfl⟩ := y2
  simp only [List.cons.injEq, and_true] at h2
  subst h2
  refine ⟨_, y1, g1.cut 8, _, rfl, ?_, bool_rep _, rfl, ?_⟩
  ·exact ok1.inv.restrict (n := 8) (by show 8 ≤ 10; decide) (E.clean 8 (Nat.le_refl _) hI.und)
  ·exact E.cut2 (n := 8) (by show 8 ≤ 8; decide) (by show 8 ≤ 10; decide) (Nat.le_refl _)
 exact goal
end
end Go.Vm.Ite
namespace Go.Vm.Ite
open Go Go.Vm Go.Proofs Go.Vm.Ip
set_option maxRecDepth 100000
noncomputable def c46 : Code := (Tryz.f16.body).getD .skip
theorem b46 : Tryz.f16.body = some c46 := by kernel_rfl
noncomputable def c46a : Code := cR (cR (cR (cR c46)))
noncomputable def c46b : Code := cR (cR (cR c46a))
noncomputable def c46c : Code := cR c46b
noncomputable def c46d : Code := cR c46c
noncomputable def m1 : Code := cL c46b
noncomputable def m2 : Code := cL c46c
noncomputable def l1 : Code := cK (cK (cR m1))
noncomputable def l2 : Code := cK (cK (cR m2))
theorem q46 : c46 = .seq (cL c46) (.seq (cL (cR c46)) (.seq (cL (cR (cR c46))) (.seq (cL (cR (cR (cR c46)))) (.seq (cL c46a) (.seq (cL (cR c46a)) (.seq (cL (cR (cR c46a))) (.seq m1 (.seq m2 c46d)))))))) := by kernel_rfl
theorem qm1 : m1 = .seq (.region (cId (cL m1)) (cOps (cL m1)) false) (.block 4 (.loop (rangeLoop 104 4 (cId (cL l1)) (cId (cR (cR l1))) (cId (cL (cK (cR (cR l1))))) (cOps (cL l1)) (cOps (cL (cK (cR (cR l1))))) (cR (cK (cR (cR l1))))))) := by kernel_rfl
theorem qm2 : m2 = .seq (.region (cId (cL m2)) (cOps (cL m2)) false) (.block 6 (.loop (rangeLoop 114 6 (cId (cL l2)) (cId (cR (cR l2))) (cId (cL (cK (cR (cR l2))))) (cOps (cL l2)) (cOps (cL (cK (cR (cR l2))))) (cR (cK (cR (cR l2))))))) := by kernel_rfl
theorem sh1 : RangeShape 134 (cOps (cL m1)) (cOps (cL l1)) (cOps (cL (cK (cR (cR l1))))) 4 101 102 103 104 105 106 10 75 :=
 ⟨by kernel_rfl, by kernel_rfl, by kernel_rfl, by kernel_rfl, by kernel_rfl, by kernel_rfl, by kernel_rfl, by kernel_rfl, by kernel_rfl, by kernel_rfl, by decide, by decide⟩
theorem sh2 : RangeShape 134 (cOps (cL m2)) (cOps (cL l2)) (cOps (cL (cK (cR (cR l2))))) 4 111 112 113 114 115 116 11 75 :=
 ⟨by kernel_rfl, by kernel_rfl, by kernel_rfl, by kernel_rfl, by kernel_rfl, by kernel_rfl, by kernel_rfl, by kernel_rfl, by kernel_rfl, by kernel_rfl, by decide, by decide⟩
theorem u75 : Tryz.prog.underlying 75 = some (.map 9 3) := by kernel_rfl
theorem tK0 : tr Tryz.prog n50 (cL c46) = some (vL B16) := by kernel_rfl
theorem tK1 : tr Tryz.prog n50 (cL (cR c46)) = some (vL (vR B16)) := by kernel_rfl
theorem tK2 : tr Tryz.prog n50 (cL (cR (cR c46))) = some (vL (vR (vR B16))) := by kernel_rfl
theorem tK3 : tr Tryz.prog n50 (cL (cR (cR (cR c46)))) = some (vL (vR (vR (vR B16)))) := by kernel_rfl
noncomputable def d46 : VCode := vR (vR (vR (vR B16)))
theorem tK4 : tr Tryz.prog A16 (cL c46a) = some (vL d46) := by kernel_rfl
theorem tK5 : tr Tryz.prog A16 (cL (cR c46a)) = some (vL (vR d46)) := by kernel_rfl
theorem tK6 : tr Tryz.prog n50 (cL (cR (cR c46a))) = some (vL (vR (vR d46))) := by kernel_rfl
noncomputable def vb1 : VCode := vR (vK (vR (vR L16_2)))
noncomputable def vb2 : VCode := vR (vK (vR (vR L16_3)))
theorem tb1 : tr Tryz.prog n50 (cR (cK (cR (cR l1)))) = some vb1 := by kernel_rfl
theorem tb2 : tr Tryz.prog n50 (cR (cK (cR (cR l2)))) = some vb2 := by kernel_rfl
open Classical in
noncomputable def primEnd (x : Its) (a : List V) (h : Hp) : Option (V × Hp) := match a with
 | [d, p, .d (.str s)] => if d = .d x.D ∧ p = .ptr 5 0 ∧ ∃ o6 o7, h = H8 x o6 o7 then some (boo (endB x s), h) else none
 | _ => none
noncomputable def F1 (x : Its) : Nat → Option VFun := fun i => if i = 55 then some (.prim (primEnd x)) else none
theorem tOk1 (fx : Nat → Option Obj) (x : Its) (hx : Fine x) (hsm : Small x) : TblOk Tryz.prog (pgL fx (F1 x)) := by
 refine tblOk _ _ fun f e h => ?_
 unfold F1 at h
 split at h
 ·rename_i hf
  subst hf
  cases h
  intro args H r H' hh
  unfold primEnd at hh
  split at hh
  ·rename_i d p s
   split at hh
   ·rename_i hc
    obtain ⟨rfl, rfl, o6, o7, rfl⟩ := hc
    cases hh
    exact end_spec x hx hsm s o6 o7
   ·cases hh
  ·cases hh
 ·cases h
theorem end_ev {fx : Nat → Option Obj} (x : Its) (s : S) (o6 o7 : Ob) : evF (pgL fx (F1 x)) 55 [.d x.D, .ptr 5 0, str s] (H8 x o6 o7) = some (boo (endB x s), H8 x o6 o7) := by
 have ht : (pgL fx (F1 x)).tbl 55 = some (.prim (primEnd x)) := rfl
 rw [evF_prim ht]
 unfold primEnd
 exact if_pos ⟨rfl, rfl, o6, o7, rfl⟩
theorem seenM_at {ns : List S} {i : Nat} {p : D × D} (h : (seenM ns)[i]? = some p) : ∃ n, ns[i]? = some n ∧ p = (.str n, .int .i64 1) := by
 unfold seenM at h
 rw [List.getElem?_map] at h
 obtain ⟨n, h1, h2⟩ := Option.map_eq_some_iff.1 h
 exact ⟨n, h1, h2.symm⟩
set_option maxHeartbeats 2000000 in
theorem range1 {fx : Nat → Option Obj} (x : Its) (hx : Fine x) (hsm : Small x) (ns : List S) (o7 : Ob) (g : Gh) (a : Act) (w : World) (b : Nat) (ok : StOk (cxL fx) 134 g ⟨[(1, .ptr 0 0), (3, .ptr 5 0), (4, .mp 6), (9, .mp 7)], H8 x (.map (seenM ns)) o7, b⟩ a w) {Q : Exit → Act → World → Prop}
 (hn : ∀ g' a' w', (∀ s ∈ ns, endB x s = false) → StOk (cxL fx) 134 g' ⟨[(1, .ptr 0 0), (3, .ptr 5 0), (4, .mp 6), (9, .mp 7)], H8 x (.map (seenM ns)) o7, b⟩ a' w' → Ext b g (H8 x (.map (seenM ns)) o7) w g' (H8 x (.map (seenM ns)) o7) w' → Q .normal a' w')
 (hr : ∀ g' a' w' e H', (∃ s ∈ ns, endB x s = true) → getE e 2 = .d (.int .i64 7) → StOk (cxL fx) 134 g' ⟨e, H', b⟩ a' w' → Ext b g (H8 x (.map (seenM ns)) o7) w g' H' w' → Q .ret a' w') : m1.wp Tryz.prog Q a w := by
 have hT := tOk1 fx x hx hsm
 rw [qm1]
 refine mrange_sound hT mixed tb1 (by kernel_rfl) sh1 u75 ok (mid := 6) (l := seenM ns) (ks := [1, 3, 4, 9, 102]) rfl rfl (by decide) (I := fun seen Hc => Hc = H8 x (.map (seenM ns)) o7 ∧ ∀ i ∈ seen, ∀ s, ns[i]? = some s → endB x s = false) ⟨rfl, by simp⟩ (fun seen Hc h => by rw [h.1]; exact ⟨rfl, rfl⟩) (R := fun s1 => (∃ s ∈ ns, endB x s = true) ∧ getE s1.e 2 = .d (.int .i64 7)) ?_ ?_ ?_
 ·intro r seen Hc i p hI hp hi
  obtain ⟨rfl, hall⟩ := hI
  obtain ⟨s, hs, rfl⟩ := seenM_at hp
  have ee := end_ev (fx := fx) x s (.map (seenM ns)) o7
  cases hb : endB x s with
  | false =>
   rw [hb] at ee
   have hq : WQ (pgL fx (F1 x)) 8 vb1 [] ((10, .d (.str s)) :: (106, .d (.str s)) :: (105, .tup [.d (.str s), .d (.int .i64 1)]) :: (104, .d (.bool true)) :: (103, .tup [.d (.bool true), .d (.str s), .d (.int .i64 1)]) :: keepE [1, 3, 4, 9, 102] ((102, .raw (.pointer (some ⟨r, 0, none⟩))) :: (101, .mp 6) :: [(1, .ptr 0 0), (3, .ptr 5 0), (4, .mp 6), (9, .mp 7)])) (H8 x (.map (seenM ns)) o7) fun x1 _ e' H' => x1 = .nrm ∧ cut 8 (keepE [1, 3, 4, 9, 102] e') = [(1, .ptr 0 0), (3, .ptr 5 0), (4, .mp 6), (9, .mp 7), (102, .raw (.pointer (some ⟨r, 0, none⟩)))] ∧ H' = H8 x (.map (seenM ns)) o7 := by
     repeat' (first | refine run ⟨?_⟩ | refine ca (ee) ?_ | fail)
     exact rfl
   obtain ⟨x1, kn, e', H', h1, _, rfl, h2, rfl⟩ := hq.imp (KnOk.nil _)
   refine ⟨_, _, h1, .inl ⟨rfl, h2, rfl, fun i' hi' s' hs' => ?_⟩⟩
   rcases List.mem_cons.1 hi' with q | q
   ·subst q
    rw [hs] at hs'
    cases hs'
    exact hb
   ·exact hall i' q s' hs'
  | true =>
   rw [hb] at ee
   have hq : WQ (pgL fx (F1 x)) 8 vb1 [] ((10, .d (.str s)) :: (106, .d (.str s)) :: (105, .tup [.d (.str s), .d (.int .i64 1)]) :: (104, .d (.bool true)) :: (103, .tup [.d (.bool true), .d (.str s), .d (.int .i64 1)]) :: keepE [1, 3, 4, 9, 102] ((102, .raw (.pointer (some ⟨r, 0, none⟩))) :: (101, .mp 6) :: [(1, .ptr 0 0), (3, .ptr 5 0), (4, .mp 6), (9, .mp 7)])) (H8 x (.map (seenM ns)) o7) fun x1 _ e' H' => x1 = .ret ∧ getE e' 2 = .d (.int .i64 7) := by
     repeat' (first | refine run ⟨?_⟩ | refine ca (ee) ?_ | fail)
     exact rfl
   obtain ⟨x1, kn, e', H', h1, _, rfl, h2⟩ := hq.imp (KnOk.nil _)
   exact ⟨_, _, h1, .inr ⟨rfl, ⟨s, List.mem_of_getElem? hs, hb⟩, h2⟩⟩
 ·intro g' a' w' r Hc seen hI hall ok' ext'
  obtain ⟨rfl, h2⟩ := hI
  refine hn g' a' w' (fun s hs => ?_) (ok'.forget [1, 3, 4, 9]) ext'
  obtain ⟨i, hi, he⟩ := List.getElem_of_mem hs
  have hi' : i < (seenM ns).length := by unfold seenM; rw [List.length_map]; exact hi
  exact h2 i (hall i hi') s (by rw [List.getElem?_eq_getElem hi, he])
 ·intro g' a' w' s1 hR ok' ext'
  exact hr g' a' w' s1.e s1.h hR.1 hR.2 ok' ext'
set_option maxHeartbeats 2000000 in
theorem range2 {fx : Nat → Option Obj} (x : Its) (hx : Fine x) (N : Nat) (hN : N ≤ 1000000) (ns : List S) (hd : ∀ s ∈ ns, deepOk x N s) (g : Gh) (a : Act) (w : World) (b : Nat) (ok : StOk (cxL fx) 134 g ⟨[(1, .ptr 0 0), (3, .ptr 5 0), (4, .mp 6), (9, .mp 7)], H8 x (.map (seenM ns)) (.map []), b⟩ a w) {Q : Exit → Act → World → Prop}
 (hn : ∀ g' a' w' o7, (∀ s ∈ ns, bigB (szF x N s) = false) → StOk (cxL fx) 134 g' ⟨[(1, .ptr 0 0), (3, .ptr 5 0)], H8 x (.map (seenM ns)) o7, b⟩ a' w' → Ext b g (H8 x (.map (seenM ns)) (.map [])) w g' (H8 x (.map (seenM ns)) o7) w' → Q .normal a' w')
 (hr : ∀ g' a' w' e H', (∃ s ∈ ns, bigB (szF x N s) = true) → getE e 2 = .d (.int .i64 7) → StOk (cxL fx) 134 g' ⟨e, H', b⟩ a' w' → Ext b g (H8 x (.map (seenM ns)) (.map [])) w g' H' w' → Q .ret a' w') : m2.wp Tryz.prog Q a w := by
 have hT := tOk fx
 rw [qm2]
 refine mrange_sound hT mixed tb2 (by kernel_rfl) sh2 u75 ok (mid := 6) (l := seenM ns) (ks := [1, 3, 9, 112]) rfl rfl (by decide) (I := fun seen Hc => ∃ d, SzOk x N d ∧ Hc = H8 x (.map (seenM ns)) (.map (szM d)) ∧ ∀ i ∈ seen, ∀ s, ns[i]? = some s → bigB (szF x N s) = false) ⟨[], (fun q hq => by cases hq), rfl, by simp⟩ (fun seen Hc h => by obtain ⟨d, _, rfl, _⟩ := h; exact ⟨rfl, rfl⟩) (R := fun s1 => (∃ s ∈ ns, bigB (szF x N s) = true) ∧ getE s1.e 2 = .d (.int .i64 7)) ?_ ?_ ?_
 ·intro r seen Hc i p hI hp hi
  obtain ⟨d, hd1, rfl, hall⟩ := hI
  obtain ⟨s, hs, rfl⟩ := seenM_at hp
  have hmem := List.mem_of_getElem? hs
  obtain ⟨rr, H2, hev, rfl, d', hd2, rfl⟩ := sized_s (fx := fx) x hx N hN N s (hd s hmem) (Nat.le_refl _) d hd1
  have ee : evF (pgL fx F0) n_items_sized [.d x.D, .ptr 5 0, str s, .mp 7] (H8 x (.map (seenM ns)) (.map (szM d))) = some (SzD (szF x N s), H8 x (.map (seenM ns)) (.map (szM d'))) :=
   evF_at (mv fx) [2, 3, 4, 5, 7] hev rfl rfl rfl rfl rfl
  have hbound := szF_bound x N s
  obtain ⟨v, hv⟩ : ∃ v, v = szF x N s := ⟨_, rfl⟩
  have hv' : bigB v = bigB (szF x N s) := by rw [hv]
  rw [← hv] at ee
  have good : bigB v = false → ∃ x1 s1, ev (pgL fx F0) vb2 ⟨(11, .d (.str s)) :: (116, .d (.str s)) :: (115, .tup [.d (.str s), .d (.int .i64 1)]) :: (114, .d (.bool true)) :: (113, .tup [.d (.bool true), .d (.str s), .d (.int .i64 1)]) :: keepE [1, 3, 9, 112] ((112, .raw (.pointer (some ⟨r, 0, none⟩))) :: (111, .mp 6) :: [(1, .ptr 0 0), (3, .ptr 5 0), (4, .mp 6), (9, .mp 7)]), H8 x (.map (seenM ns)) (.map (szM d)), 8⟩ = some (x1, s1) ∧ x1 = .nrm ∧ cut 8 (keepE [1, 3, 9, 112] s1.e) = [(1, .ptr 0 0), (3, .ptr 5 0), (9, .mp 7), (112, .raw (.pointer (some ⟨r, 0, none⟩)))] ∧ s1.h.take 8 = H8 x (.map (seenM ns)) (.map (szM d')) := fun hb => by
    have hb1 : ¬ v.1 > 64 := by simp only [bigB, Bool.or_eq_false_iff, decide_eq_false_iff_not] at hb; exact hb.1
    have hb2 : ¬ v.2 > 1024 := by simp only [bigB, Bool.or_eq_false_iff, decide_eq_false_iff_not] at hb; exact hb.2
    have hq : WQ (pgL fx F0) 8 vb2 [] ((11, .d (.str s)) :: (116, .d (.str s)) :: (115, .tup [.d (.str s), .d (.int .i64 1)]) :: (114, .d (.bool true)) :: (113, .tup [.d (.bool true), .d (.str s), .d (.int .i64 1)]) :: keepE [1, 3, 9, 112] ((112, .raw (.pointer (some ⟨r, 0, none⟩))) :: (111, .mp 6) :: [(1, .ptr 0 0), (3, .ptr 5 0), (4, .mp 6), (9, .mp 7)])) (H8 x (.map (seenM ns)) (.map (szM d))) fun x1 _ e' H' => x1 = .nrm ∧ cut 8 (keepE [1, 3, 9, 112] e') = [(1, .ptr 0 0), (3, .ptr 5 0), (9, .mp 7), (112, .raw (.pointer (some ⟨r, 0, none⟩)))] ∧ H'.take 8 = H8 x (.map (seenM ns)) (.map (szM d')) := by
      repeat' (first | refine run ⟨?_⟩ | refine ca (ee) ?_ | fail)
      exact rfl
    obtain ⟨x1, kn, e', H', h1, _, h2, h3, h4⟩ := hq.imp (KnOk.nil _)
    exact ⟨_, _, h1, h2, h3, h4⟩
  cases hb : bigB v with
  | false =>
   obtain ⟨x1, s1, h1, h2, h3, h4⟩ := good hb
   refine ⟨x1, s1, h1, .inl ⟨h2, h3, d', hd2, h4, fun i' hi' s' hs' => ?_⟩⟩
   rcases List.mem_cons.1 hi' with q | q
   ·subst q
    rw [hs] at hs'
    cases hs'
    rw [← hv']; exact hb
   ·exact hall i' q s' hs'
  | true =>
   have hq : WQ (pgL fx F0) 8 vb2 [] ((11, .d (.str s)) :: (116, .d (.str s)) :: (115, .tup [.d (.str s), .d (.int .i64 1)]) :: (114, .d (.bool true)) :: (113, .tup [.d (.bool true), .d (.str s), .d (.int .i64 1)]) :: keepE [1, 3, 9, 112] ((112, .raw (.pointer (some ⟨r, 0, none⟩))) :: (111, .mp 6) :: [(1, .ptr 0 0), (3, .ptr 5 0), (4, .mp 6), (9, .mp 7)])) (H8 x (.map (seenM ns)) (.map (szM d))) fun x1 _ e' H' => x1 = .ret ∧ getE e' 2 = .d (.int .i64 7) := by
     by_cases hb1 : v.1 > 64
     ·repeat' (first | refine run ⟨?_⟩ | refine ca (ee) ?_ | fail)
      exact rfl
     ·have hb2 : v.2 > 1024 := by
       simp only [bigB, Bool.or_eq_true, decide_eq_true_eq] at hb
       exact hb.resolve_left hb1
      repeat' (first | refine run ⟨?_⟩ | refine ca (ee) ?_ | fail)
      exact rfl
   obtain ⟨x1, kn, e', H', h1, _, rfl, h2⟩ := hq.imp (KnOk.nil _)
   exact ⟨_, _, h1, .inr ⟨rfl, ⟨s, hmem, by rw [← hv']; exact hb⟩, h2⟩⟩
 ·intro g' a' w' r Hc seen hI hall ok' ext'
  obtain ⟨d, _, rfl, h2⟩ := hI
  refine hn g' a' w' _ (fun s hs => ?_) (ok'.forget [1, 3]) ext'
  obtain ⟨i, hi, he⟩ := List.getElem_of_mem hs
  have hi' : i < (seenM ns).length := by unfold seenM; rw [List.length_map]; exact hi
  exact h2 i (hall i hi') s (by rw [List.getElem?_eq_getElem hi, he])
 ·intro g' a' w' s1 hR ok' ext'
  exact hr g' a' w' s1.e s1.h hR.1 hR.2 ok' ext'
end Go.Vm.Ite
