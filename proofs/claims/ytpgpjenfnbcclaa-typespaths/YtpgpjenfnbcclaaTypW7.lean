import Derived.Test.YtpgpjenfnbcclaaTypW4
import Derived.Test.YtpgpjenfnbcclaaTypP9
set_option linter.unusedSimpArgs false
set_option linter.unusedVariables false
namespace Go.Vm.Typ
open Go.Vm.Ip
set_option maxRecDepth 10000
section
variable {fx : Nat → Option Obj} {F : Nat → Option VFun}
theorem hasp_ev (s p : S) (H : Hp) : evF (pgL fx F) n_internal_stringslite_HasPrefix [str s, str p] H = some (boo (preB s p), H) := by
  refine evF_wq (t_internal_stringslite_HasPrefix (F := F)) rfl rfl ?_ H
  unfold preB
  by_cases h : p.length ≤ s.length
  · have h' : ((p.length : Nat) : Int) ≤ ((s.length : Nat) : Int) := by omega
    have hn : (0 : Int) ≤ ((p.length : Nat) : Int) := by omega
    have hb : (0 : Nat) ≤ ((p.length : Nat) : Int).toNat ∧ ((p.length : Nat) : Int).toNat ≤ s.length := ⟨Nat.zero_le _, h⟩
    repeat' (first | refine run ⟨?_⟩ | refine And.intro hn ?_ | refine And.intro hb ?_ | fail)
    rw [decide_eq_true h, Bool.true_and]; exact rfl
  · have h' : ¬ ((p.length : Nat) : Int) ≤ ((s.length : Nat) : Int) := by omega
    refine run ⟨?_⟩
    rw [decide_eq_false h]; exact rfl
theorem shasp_ev (s p : S) (H : Hp) : evF (pgL fx F) n_strings_HasPrefix [str s, str p] H = some (boo (preB s p), H) := by
  refine evF_wq (t_strings_HasPrefix (F := F)) rfl rfl ?_ H
  have e1 := hasp_ev (fx := fx) (F := F) s p
  repeat' (first | refine run ⟨?_⟩ | refine ca (e1 _) ?_ | fail)
  exact rfl
theorem cutp_ev (s p : S) (H : Hp) : evF (pgL fx F) n_internal_stringslite_CutPrefix [str s, str p] H = some (.tup [str (if preB s p then s.drop p.length else s), boo (preB s p)], H) := by
  refine evF_wq (t_internal_stringslite_CutPrefix (F := F)) rfl rfl ?_ H
  have e1 := hasp_ev (fx := fx) (F := F) s p
  cases h : preB s p with
  | false =>
    rw [h] at e1
    repeat' (first | refine run ⟨?_⟩ | refine ca (e1 _) ?_ | fail)
    exact rfl
  | true =>
    rw [h] at e1
    have hle : p.length ≤ s.length := by simp only [preB, Bool.and_eq_true, decide_eq_true_eq] at h; exact h.1
    have hn : (0 : Int) ≤ ((p.length : Nat) : Int) := by omega
    have hb : ((p.length : Nat) : Int).toNat ≤ s.length ∧ s.length ≤ s.length := ⟨hle, Nat.le_refl _⟩
    repeat' (first | refine run ⟨?_⟩ | refine ca (e1 _) ?_ | refine And.intro hn ?_ | refine And.intro hb ?_ | fail)
    rw [if_pos rfl, List.take_length]; exact rfl
theorem scutp_ev (s p : S) (H : Hp) : evF (pgL fx F) n_strings_CutPrefix [str s, str p] H = some (.tup [str (if preB s p then s.drop p.length else s), boo (preB s p)], H) := by
  refine evF_wq (t_strings_CutPrefix (F := F)) rfl rfl ?_ H
  have e1 := cutp_ev (fx := fx) (F := F) s p
  repeat' (first | refine run ⟨?_⟩ | refine ca (e1 _) ?_ | fail)
  exact rfl
theorem hass_ev (s q : S) (hs : s.length ≤ mx) (H : Hp) : evF (pgL fx F) n_internal_stringslite_HasSuffix [str s, str q] H = some (boo (sufB s q), H) := by
  refine evF_wq (t_internal_stringslite_HasSuffix (F := F)) rfl rfl ?_ H
  unfold sufB
  by_cases h : q.length ≤ s.length
  · have h' : ((q.length : Nat) : Int) ≤ ((s.length : Nat) : Int) := by omega
    have hs' : s.length ≤ 140737488355328 := hs
    have hw : IntKind.i64.wrap (((s.length : Nat) : Int) - ((q.length : Nat) : Int)) = ((s.length - q.length : Nat) : Int) := by rw [i64w (by omega)]; omega
    have hn : (0 : Int) ≤ IntKind.i64.wrap (((s.length : Nat) : Int) - ((q.length : Nat) : Int)) := by rw [hw]; omega
    have hb : (IntKind.i64.wrap (((s.length : Nat) : Int) - ((q.length : Nat) : Int))).toNat ≤ s.length ∧ s.length ≤ s.length := by rw [hw]; omega
    repeat' (first | refine run ⟨?_⟩ | refine And.intro hn ?_ | refine And.intro hb ?_ | fail)
    rw [hw, decide_eq_true h, Bool.true_and, List.take_length]; exact rfl
  · have h' : ¬ ((q.length : Nat) : Int) ≤ ((s.length : Nat) : Int) := by omega
    refine run ⟨?_⟩
    rw [decide_eq_false h]; exact rfl
theorem shass_ev (s q : S) (hs : s.length ≤ mx) (H : Hp) : evF (pgL fx F) n_strings_HasSuffix [str s, str q] H = some (boo (sufB s q), H) := by
  refine evF_wq (t_strings_HasSuffix (F := F)) rfl rfl ?_ H
  have e1 := hass_ev (fx := fx) (F := F) s q hs
  repeat' (first | refine run ⟨?_⟩ | refine ca (e1 _) ?_ | fail)
  exact rfl
theorem cuts_ev (s q : S) (hs : s.length ≤ mx) (H : Hp) : evF (pgL fx F) n_internal_stringslite_CutSuffix [str s, str q] H = some (.tup [str (if sufB s q then s.take (s.length - q.length) else s), boo (sufB s q)], H) := by
  refine evF_wq (t_internal_stringslite_CutSuffix (F := F)) rfl rfl ?_ H
  have e1 := hass_ev (fx := fx) (F := F) s q hs
  cases h : sufB s q with
  | false =>
    rw [h] at e1
    repeat' (first | refine run ⟨?_⟩ | refine ca (e1 _) ?_ | fail)
    exact rfl
  | true =>
    rw [h] at e1
    have hle : q.length ≤ s.length := by simp only [sufB, Bool.and_eq_true, decide_eq_true_eq] at h; exact h.1
    have hs' : s.length ≤ 140737488355328 := hs
    have hw : IntKind.i64.wrap (((s.length : Nat) : Int) - ((q.length : Nat) : Int)) = ((s.length - q.length : Nat) : Int) := by rw [i64w (by omega)]; omega
    have hn : (0 : Int) ≤ IntKind.i64.wrap (((s.length : Nat) : Int) - ((q.length : Nat) : Int)) := by rw [hw]; omega
    have hb : (0 : Nat) ≤ (IntKind.i64.wrap (((s.length : Nat) : Int) - ((q.length : Nat) : Int))).toNat ∧ (IntKind.i64.wrap (((s.length : Nat) : Int) - ((q.length : Nat) : Int))).toNat ≤ s.length := by rw [hw]; omega
    repeat' (first | refine run ⟨?_⟩ | refine ca (e1 _) ?_ | refine And.intro hn ?_ | refine And.intro hb ?_ | fail)
    rw [if_pos rfl, hw]; exact rfl
theorem scuts_ev (s q : S) (hs : s.length ≤ mx) (H : Hp) : evF (pgL fx F) n_strings_CutSuffix [str s, str q] H = some (.tup [str (if sufB s q then s.take (s.length - q.length) else s), boo (sufB s q)], H) := by
  refine evF_wq (t_strings_CutSuffix (F := F)) rfl rfl ?_ H
  have e1 := cuts_ev (fx := fx) (F := F) s q hs
  repeat' (first | refine run ⟨?_⟩ | refine ca (e1 _) ?_ | fail)
  exact rfl
end
end Go.Vm.Typ
namespace Go.Vm.Typ
open Go.Vm.Ip
set_option maxRecDepth 10000
section
variable {fx : Nat → Option Obj} {F : Nat → Option VFun}
theorem named_s (x : Its) (s : S) : evF (pgL fx F) n_items_finder_named [.ptr 3 0, str s] (FH x) = some (boo (kn x s), FH x) := by
  refine evF_wqOn (t_items_finder_named (F := F)) rfl rfl rfl ?_
  have e1 := find0_s (fx := fx) (F := F) x s
  have e2 := find1_s (fx := fx) (F := F) x s
  unfold kn
  revert e1 e2
  cases known (nS x) s <;> cases known (nE x) s <;> intro e1 e2
  all_goals
    repeat' (first | refine run ⟨?_⟩ | refine ca (e1) ?_ | refine ca (e2) ?_ | fail)
    exact rfl
theorem right_s (x : Its) : ∀ (f : Nat) (s : S), s.length < f → s.length ≤ mx → evF (pgL fx F) n_items_finder_right [.ptr 3 0, str s, boo false] (FH x) = some (boo (rightB (kn x) s), FH x)
  | 0, s, h, _ => by omega
  | f + 1, s, h, hm => by
    have ih := fun (t : S) (h1 : t.length < f) (h2 : t.length ≤ mx) => right_s x f t h1 h2
    have eb := scutp_ev (fx := fx) (F := F) s [66, 111, 120, 60]
    rw [show ([66, 111, 120, 60] : S) = boxT from rfl] at eb
    have en := named_s (fx := fx) (F := F) x s
    rw [rightB_eq]
    refine evF_wqOn (t_items_finder_right (F := F)) rfl rfl rfl ?_
    cases hp : preB s boxT with
    | true =>
      have hl := preB_len hp
      have hl : 4 ≤ s.length := hl
      rw [hp] at eb
      have ec := scuts_ev (fx := fx) (F := F) (s.drop 4) [62] (by simp only [List.length_drop]; omega)
      have ei := ih ((s.drop 4).take ((s.drop 4).length - 1)) (by simp only [List.length_take, List.length_drop]; omega) (by simp only [List.length_take, List.length_drop]; omega)
      cases hq : sufB (s.drop 4) [62] with
      | true =>
        rw [hq] at ec
        cases hr : rightB (kn x) ((s.drop 4).take ((s.drop 4).length - 1)) <;> rw [hr] at ei
        all_goals
          repeat' (first | refine run ⟨?_⟩ | refine ca (eb _) ?_ | refine ca (ec _) ?_ | refine ca (ei) ?_ | fail)
          exact rfl
      | false =>
        rw [hq] at ec
        repeat' (first | refine run ⟨?_⟩ | refine ca (eb _) ?_ | refine ca (ec _) ?_ | fail)
        exact rfl
    | false =>
      rw [hp] at eb
      by_cases h1 : s = [105, 54, 52]
      · rw [if_neg (by simp), show decide (s = i64T) = true from decide_eq_true h1, Bool.true_or, Bool.true_or, Bool.true_or]
        repeat' (first | refine run ⟨?_⟩ | refine ca (eb _) ?_ | fail)
        exact rfl
      by_cases h2 : s = [98, 111, 111, 108]
      · rw [if_neg (by simp), show decide (s = boolT) = true from decide_eq_true h2, Bool.or_true, Bool.true_or, Bool.true_or]
        repeat' (first | refine run ⟨?_⟩ | refine ca (eb _) ?_ | fail)
        exact rfl
      by_cases h3 : s = [40, 41]
      · rw [if_neg (by simp), show decide (s = unitT) = true from decide_eq_true h3, Bool.or_true, Bool.true_or]
        repeat' (first | refine run ⟨?_⟩ | refine ca (eb _) ?_ | fail)
        exact rfl
      rw [if_neg (by simp), show decide (s = i64T) = false from decide_eq_false h1, show decide (s = boolT) = false from decide_eq_false h2, show decide (s = unitT) = false from decide_eq_false h3]
      cases hr : kn x s <;> rw [hr] at en
      all_goals
        repeat' (first | refine run ⟨?_⟩ | refine ca (eb _) ?_ | refine ca (en) ?_ | fail)
        exact rfl
theorem rightf_s (x : Its) (s : S) (hm : s.length ≤ mx) : evF (pgL fx F) n_items_finder_right [.ptr 3 0, str s, boo false] (FH x) = some (boo (rightB (kn x) s), FH x) := right_s x (s.length + 1) s (Nat.lt_succ_self _) hm
theorem rightt_s (x : Its) (s : S) (hm : s.length ≤ mx) : evF (pgL fx F) n_items_finder_right [.ptr 3 0, str s, boo true] (FH x) = some (boo (rightR (kn x) s), FH x) := by
  have e1 := scutp_ev (fx := fx) (F := F) s [38, 109, 117, 116, 32]
  rw [show ([38, 109, 117, 116, 32] : S) = mutT from rfl] at e1
  have e2 := scutp_ev (fx := fx) (F := F) s [38]
  have eb := scutp_ev (fx := fx) (F := F) s [66, 111, 120, 60]
  rw [show ([66, 111, 120, 60] : S) = boxT from rfl] at eb
  have en := named_s (fx := fx) (F := F) x s
  unfold rightR
  refine evF_wqOn (t_items_finder_right (F := F)) rfl rfl rfl ?_
  cases h1 : preB s mutT with
  | true =>
    rw [h1] at e1
    have er := rightf_s (fx := fx) (F := F) x (s.drop 5) (by simp only [List.length_drop]; omega)
    rw [if_pos rfl]
    repeat' (first | refine run ⟨?_⟩ | refine ca (e1 _) ?_ | refine ca (er) ?_ | fail)
    exact rfl
  | false =>
  rw [h1] at e1
  cases h2 : preB s [38] with
  | true =>
    rw [h2] at e2
    have er := rightf_s (fx := fx) (F := F) x (s.drop 1) (by simp only [List.length_drop]; omega)
    rw [if_neg (by simp), if_pos rfl]
    repeat' (first | refine run ⟨?_⟩ | refine ca (e1 _) ?_ | refine ca (e2 _) ?_ | refine ca (er) ?_ | fail)
    exact rfl
  | false =>
  rw [h2] at e2
  rw [if_neg (by simp), if_neg (by simp), rightB_eq]
  cases hp : preB s boxT with
  | true =>
    have hl : 4 ≤ s.length := preB_len hp
    rw [hp] at eb
    have ec := scuts_ev (fx := fx) (F := F) (s.drop 4) [62] (by simp only [List.length_drop]; omega)
    have ei := rightf_s (fx := fx) (F := F) x ((s.drop 4).take ((s.drop 4).length - 1)) (by simp only [List.length_take, List.length_drop]; omega)
    cases hq : sufB (s.drop 4) [62] with
    | true =>
      rw [hq] at ec
      cases hr : rightB (kn x) ((s.drop 4).take ((s.drop 4).length - 1)) <;> rw [hr] at ei
      all_goals
        repeat' (first | refine run ⟨?_⟩ | refine ca (e1 _) ?_ | refine ca (e2 _) ?_ | refine ca (eb _) ?_ | refine ca (ec _) ?_ | refine ca (ei) ?_ | fail)
        exact rfl
    | false =>
      rw [hq] at ec
      repeat' (first | refine run ⟨?_⟩ | refine ca (e1 _) ?_ | refine ca (e2 _) ?_ | refine ca (eb _) ?_ | refine ca (ec _) ?_ | fail)
      exact rfl
  | false =>
    rw [hp] at eb
    by_cases h1 : s = [105, 54, 52]
    · rw [if_neg (by simp), show decide (s = i64T) = true from decide_eq_true h1, Bool.true_or, Bool.true_or, Bool.true_or]
      repeat' (first | refine run ⟨?_⟩ | refine ca (e1 _) ?_ | refine ca (e2 _) ?_ | refine ca (eb _) ?_ | fail)
      exact rfl
    by_cases h2 : s = [98, 111, 111, 108]
    · rw [if_neg (by simp), show decide (s = boolT) = true from decide_eq_true h2, Bool.or_true, Bool.true_or, Bool.true_or]
      repeat' (first | refine run ⟨?_⟩ | refine ca (e1 _) ?_ | refine ca (e2 _) ?_ | refine ca (eb _) ?_ | fail)
      exact rfl
    by_cases h3 : s = [40, 41]
    · rw [if_neg (by simp), show decide (s = unitT) = true from decide_eq_true h3, Bool.or_true, Bool.true_or]
      repeat' (first | refine run ⟨?_⟩ | refine ca (e1 _) ?_ | refine ca (e2 _) ?_ | refine ca (eb _) ?_ | fail)
      exact rfl
    rw [if_neg (by simp), show decide (s = i64T) = false from decide_eq_false h1, show decide (s = boolT) = false from decide_eq_false h2, show decide (s = unitT) = false from decide_eq_false h3]
    cases hr : kn x s <;> rw [hr] at en
    all_goals
      repeat' (first | refine run ⟨?_⟩ | refine ca (e1 _) ?_ | refine ca (e2 _) ?_ | refine ca (eb _) ?_ | refine ca (en) ?_ | fail)
      exact rfl
end
end Go.Vm.Typ
namespace Go.Vm.Typ
open Go.Vm.Ip
set_option maxRecDepth 10000
def strs (l : List S) : V := .d (.sl (l.map .str))
theorem gFl {l : List Fld} {i : Nat} (h : i < l.length) : 0 ≤ (i : Int) ∧ (l.map Fld.D)[(i : Int).toNat]? = some (l.getD i default).D := by
  refine ⟨by omega, ?_⟩
  rw [Int.toNat_natCast, List.getElem?_map, List.getElem?_eq_getElem h]
  simp [List.getD_eq_getElem?_getD, List.getElem?_eq_getElem h]
theorem take_succ_getD {α : Type} {l : List α} {i : Nat} {d : α} (h : i < l.length) : l.take (i + 1) = l.take i ++ [l.getD i d] := by
  rw [List.take_add_one, List.getElem?_eq_getElem h]
  simp [List.getD_eq_getElem?_getD, List.getElem?_eq_getElem h]
theorem takeT {l : List Fld} {i : Nat} (h : i < l.length) : (l.take (i + 1)).map (fun f => D.str f.t) = (l.take i).map (fun f => D.str f.t) ++ [D.str (l.getD i default).t] := by
  rw [take_succ_getD h, List.map_append]; rfl
theorem someT_succ {l : List Fld} {i : Nat} (h : i < l.length) : someT (l.take (i + 1)) = if (l.getD i default).t = [] then someT (l.take i) else someT (l.take i) ++ [(l.getD i default).t] := by
  unfold someT
  rw [take_succ_getD (d := default) h, List.map_append, List.filter_append]
  generalize l.getD i default = f
  by_cases e : f.t = [] <;> simp [e]
section
variable {fx : Nat → Option Obj} {F : Nat → Option VFun}
theorem strs_map (l : List Fld) : l.map (fun f => D.str f.t) = (l.map Fld.t).map D.str := by rw [List.map_map]; rfl
set_option maxHeartbeats 1000000 in
theorem held_s (x : Its) (hx : Fine x) (s : S) : evF (pgL fx F) n_items_held [.d x.D, .ptr 3 0, str s] (FH x) = some (.tup [strs (heldM x s).1, boo (heldM x s).2], FH x) := by
  apply up
  have hp : ∀ (k : Nat) (r : V), evF (pgL fx F0) n_items_table_find [.ptr 3 k, str s] (FH x) = some (r, FH x) → r.sh (toPl [0, 1, 2, 3] (FH x ++ [IB x, .row 1 []]).length) = r → evF (pgL fx F0) n_items_table_find [.ptr 3 k, str s] [.map (finM (nS x)), .map (finM (nE x)), .map (finM (nF x)), .box [.mp 0, .mp 1, .mp 2], IB x, .row 1 []] = some (r, [.map (finM (nS x)), .map (finM (nE x)), .map (finM (nF x)), .box [.mp 0, .mp 1, .mp 2], IB x, .row 1 []]) := fun k r h hr => by
    have := evF_at (mv fx) [0, 1, 2, 3] (X := FH x ++ [IB x, .row 1 []]) (A := [.ptr 3 k, str s]) h rfl rfl rfl rfl rfl
    rw [hr] at this
    exact this
  have e1 := hp 0 _ (find0_s x s) rfl
  have e2 := hp 1 _ (find1_s x s) rfl
  clear hp
  have hS : (nS x).length = x.ss.length := by simp [nS]
  have hE : (nE x).length = x.es.length := by simp [nE]
  have gS : ∀ i, pos (nS x) s = some i → i < x.ss.length := fun i h => by have := pos_lt h; omega
  have gE : ∀ i, pos (nE x) s = some i → i < x.es.length := fun i h => by have := pos_lt h; omega
  unfold heldM
  unfold loc known at e1 e2
  revert e1 e2 gS gE
  cases pos (nS x) s with
  | some i =>
    intro e1 e2 gS _
    dsimp only at e1 ⊢
    have hi := gS i rfl
    have pi := gN hi
    have hl : (x.ss.getD i default).fs.length ≤ 4398046511104 := by
      have : x.ss.getD i default ∈ x.ss := by simp [List.getD_eq_getElem?_getD, List.getElem?_eq_getElem hi]
      exact (hx.sf _ this).2.1
    revert pi hl
    generalize x.ss.getD i default = y
    obtain ⟨yn, fs⟩ := y
    intro pi hl
    dsimp only at hl ⊢
    refine evF_wqOn (t_items_held (F := F)) rfl rfl rfl ?_
    repeat' (first | refine run ⟨?_⟩ | refine ca (e1) ?_ | refine pickD pi ?_ | fail)
    refine wq_loop (α := Nat) (fun j => fs.length - j) (fun j => [(8, .row 5 j), (31, .d (fldsD fs)), (32, i64 fs.length), (33, i64 j)]) (fun j => [.map (finM (nS x)), .map (finM (nE x)), .map (finM (nF x)), .box [.mp 0, .mp 1, .mp 2], IB x, .row 1 ((fs.take j).map fun f => .str f.t)]) (fun j => j ≤ fs.length) ?_ 0 (Nat.zero_le _) (by show [_, _, _, _] = _; rw [List.length_map]; rfl) rfl
    intro j hj
    by_cases h : j < fs.length
    · have h' : (j : Int) < (fs.length : Int) := by omega
      have pj := gFl h
      have ht := takeT h
      have ha : 1 = 1 ∧ ((fs.take j).map fun f => D.str f.t).length = j ∧ roomy (j + 1) 16 := ⟨rfl, by simp; omega, by constructor <;> omega⟩
      revert pj ht
      generalize fs.getD j default = f
      intro pj ht
      repeat' (first | refine run ⟨?_⟩ | refine pickD pj ?_ | refine And.intro ⟨rfl, Nat.one_pos⟩ ?_ | refine And.intro ha ?_ | fail)
      exact ⟨j + 1, by omega, by omega, by rw [i64w (by omega)] <;> rfl, by rw [ht] <;> rfl⟩
    · have h' : ¬ (j : Int) < (fs.length : Int) := by omega
      obtain rfl : j = fs.length := by omega
      have hlen : ((fs.take fs.length).map fun f => D.str f.t).length = fs.length := by simp
      have hv : V.tup [.d (.sl ((fs.take fs.length).map fun f => D.str f.t)), boo false] = .tup [strs (fs.map Fld.t), boo false] := by rw [List.take_length, strs_map]; rfl
      repeat' (first | refine run ⟨?_⟩ | refine And.intro hlen ?_ | refine And.intro hv ?_ | fail)
      exact rfl
  | none =>
    intro e1
    dsimp only at e1
    cases pos (nE x) s with
    | none =>
      intro e2 _ _
      refine evF_wqOn (t_items_held (F := F)) rfl rfl rfl ?_
      repeat' (first | refine run ⟨?_⟩ | refine ca (e1) ?_ | refine ca (e2) ?_ | fail)
      exact rfl
    | some i =>
      intro e2 _ gE
      dsimp only at e2 ⊢
      have hi := gE i rfl
      have pi := gN hi
      have hl : (x.es.getD i default).fs.length ≤ 4398046511104 := by
        have : x.es.getD i default ∈ x.es := by simp [List.getD_eq_getElem?_getD, List.getElem?_eq_getElem hi]
        exact (hx.ef _ this).2.1
      revert pi hl
      generalize x.es.getD i default = y
      obtain ⟨yn, fs⟩ := y
      intro pi hl
      dsimp only at hl ⊢
      refine evF_wqOn (t_items_held (F := F)) rfl rfl rfl ?_
      repeat' (first | refine run ⟨?_⟩ | refine ca (e1) ?_ | refine ca (e2) ?_ | refine pickD pi ?_ | fail)
      refine wq_loop (α := Nat) (fun j => fs.length - j) (fun j => [(8, .row 5 (someT (fs.take j)).length), (58, .d (fldsD fs)), (59, i64 fs.length), (60, i64 j)]) (fun j => [.map (finM (nS x)), .map (finM (nE x)), .map (finM (nF x)), .box [.mp 0, .mp 1, .mp 2], IB x, .row 1 ((someT (fs.take j)).map .str)]) (fun j => j ≤ fs.length) ?_ 0 (Nat.zero_le _) (by show [_, _, _, _] = _; rw [List.length_map]; rfl) rfl
      intro j hj
      by_cases h : j < fs.length
      · have h' : (j : Int) < (fs.length : Int) := by omega
        have pj := gFl h
        have ht := someT_succ h
        have hsl := someT_len (fs.take j)
        simp only [List.length_take] at hsl
        have ha : 1 = 1 ∧ ((someT (fs.take j)).map D.str).length = (someT (fs.take j)).length ∧ roomy ((someT (fs.take j)).length + 1) 16 := ⟨rfl, by simp, by constructor <;> omega⟩
        revert pj ht
        generalize fs.getD j default = f
        intro pj ht
        by_cases hf : f.t = []
        · rw [if_pos hf] at ht
          have hf' : (!decide (f.t = [])) = false := by simp [hf]
          repeat' (first | refine run ⟨?_⟩ | refine pickD pj ?_ | fail)
          exact ⟨j + 1, by omega, by omega, by rw [i64w (by omega), ht] <;> rfl, by rw [ht] <;> rfl⟩
        · rw [if_neg hf] at ht
          have hf' : (!decide (f.t = [])) = true := by simp [hf]
          repeat' (first | refine run ⟨?_⟩ | refine pickD pj ?_ | refine And.intro ⟨rfl, Nat.one_pos⟩ ?_ | refine And.intro ha ?_ | fail)
          exact ⟨j + 1, by omega, by omega, by rw [i64w (by omega), ht, List.length_append] <;> rfl, by rw [ht, List.map_append] <;> rfl⟩
      · have h' : ¬ (j : Int) < (fs.length : Int) := by omega
        obtain rfl : j = fs.length := by omega
        have hlen : ((someT (fs.take fs.length)).map D.str).length = (someT (fs.take fs.length)).length := by simp
        have hv : V.tup [.d (.sl ((someT (fs.take fs.length)).map D.str)), boo true] = .tup [strs (someT fs), boo true] := by rw [List.take_length]; rfl
        repeat' (first | refine run ⟨?_⟩ | refine And.intro hlen ?_ | refine And.intro hv ?_ | fail)
        exact rfl
end
end Go.Vm.Typ
