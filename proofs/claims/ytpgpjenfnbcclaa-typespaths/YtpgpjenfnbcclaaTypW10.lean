import Derived.Test.YtpgpjenfnbcclaaTypW7
import Derived.Test.YtpgpjenfnbcclaaTypP9
set_option linter.unusedSimpArgs false
set_option linter.unusedVariables false
namespace Go.Vm.Typ
open Go.Vm.Ip
open Go.Vm.Lex (nameB)
set_option maxRecDepth 10000
section
variable {fx : Nat → Option Obj} {F : Nat → Option VFun}
theorem rightr_s (x : Its) (s : S) (ref : Bool) (hm : s.length ≤ mx) : evF (pgL fx F) n_items_finder_right [.ptr 3 0, str s, boo ref] (FH x) = some (boo (rt (kn x) ref s), FH x) := by
  cases ref
  · exact rightf_s x s hm
  · exact rightt_s x s hm
theorem takeN {l : List Fld} {i : Nat} (h : i < l.length) : (l.take (i + 1)).map Fld.n = (l.take i).map Fld.n ++ [(l.getD i default).n] := by
  rw [take_succ_getD h, List.map_append]; rfl
set_option maxHeartbeats 2000000 in
theorem listed_s (x : Its) (l : List Fld) (hl : l.length ≤ mf) (hf : ∀ f ∈ l, f.n.length ≤ mx ∧ f.t.length ≤ mx) (most : Int) (ref bare : Bool) : evF (pgL fx F) n_items_finder_listed [.ptr 3 0, .d (fldsD l), i64 most, boo ref, boo bare] (FH x) = some (boo (lstB (rt (kn x) ref) bare [] l && decide ((l.length : Int) ≤ most)), FH x) := by
  apply up
  have hl' : l.length ≤ 4398046511104 := hl
  refine evF_wqOn (t_items_finder_listed (F := F)) rfl rfl rfl ?_
  refine run ⟨?_⟩
  refine wq_loop (α := Nat) (fun j => l.length - j) (fun j => [(0, .ptr 3 0), (1, .d (fldsD l)), (2, i64 most), (3, boo ref), (4, boo bare), (11, .mp 4), (15, .d (fldsD l)), (16, i64 l.length), (17, i64 j)]) (fun j => [.map (finM (nS x)), .map (finM (nE x)), .map (finM (nF x)), .box [.mp 0, .mp 1, .mp 2], .map (seenM ((l.take j).map Fld.n))]) (fun j => j ≤ l.length ∧ lstB (rt (kn x) ref) bare [] l = lstB (rt (kn x) ref) bare ((l.take j).map Fld.n) (l.drop j)) ?_ 0 ⟨Nat.zero_le _, rfl⟩ (by show [_, _, _, _, _, _, _, _, _] = _; rw [List.length_map]; rfl) rfl
  rintro j ⟨hj, hinv⟩
  rw [hinv]
  by_cases h : j < l.length
  · have h' : (j : Int) < (l.length : Int) := by omega
    have pj := gFl h
    have hn := takeN h
    have hd := drop_getD (d := default) h
    have hfm := hf (l.getD j default) (by simp [List.getD_eq_getElem?_getD, List.getElem?_eq_getElem h])
    have h1 := seenM_keys ((l.take j).map Fld.n)
    have h2 := seenM_find (l.getD j default).n ((l.take j).map Fld.n)
    have h3 := seenM_set (l.getD j default).n ((l.take j).map Fld.n)
    have er : evF (pgL fx F0) n_items_finder_right [.ptr 3 0, str (l.getD j default).t, boo ref] [.map (finM (nS x)), .map (finM (nE x)), .map (finM (nF x)), .box [.mp 0, .mp 1, .mp 2], .map (seenM ((l.take j).map Fld.n)), .box [str (l.getD j default).n, str (l.getD j default).t]] = some (boo (rt (kn x) ref (l.getD j default).t), [.map (finM (nS x)), .map (finM (nE x)), .map (finM (nF x)), .box [.mp 0, .mp 1, .mp 2], .map (seenM ((l.take j).map Fld.n)), .box [str (l.getD j default).n, str (l.getD j default).t]]) :=
      evF_at (mv fx) [0, 1, 2, 3] (rightr_s x _ ref hfm.2) rfl rfl rfl rfl rfl
    revert pj hn hd hfm h2 h3 er h1
    generalize l.getD j default = f
    obtain ⟨n, t⟩ := f
    intro pj hn hd hfm h1 h2 h3 er
    dsimp only at hn hfm h2 h3 er
    have en := name_ev (fx := fx) (F := F0) (s := n) (hs := Nat.le_trans hfm.1 (by decide))
    rw [hd]
    simp only [lstB]
    cases c1 : nameB n with
    | false =>
      rw [c1] at en
      repeat' (first | refine run ⟨?_⟩ | refine pickD pj ?_ | refine ca (en _) ?_ | fail)
      exact rfl
    | true =>
    rw [c1] at en
    by_cases c2 : n ∈ (l.take j).map Fld.n
    · rw [if_pos c2] at h2
      rw [decide_eq_true c2]
      repeat' (first | refine run ⟨?_⟩ | refine pickD pj ?_ | refine ca (en _) ?_ | refine mg h1 h2 ?_ | fail)
      exact rfl
    rw [if_neg c2] at h2
    rw [decide_eq_false c2]
    have h3 := h3 c2
    cases c3 : rt (kn x) ref t with
    | true =>
      rw [c3] at er
      repeat' (first | refine run ⟨?_⟩ | refine pickD pj ?_ | refine ca (en _) ?_ | refine mg h1 h2 ?_ | refine ca (er) ?_ | refine And.intro h1 ?_ | fail)
      exact ⟨j + 1, ⟨by omega, by rw [hn]; rfl⟩, by omega, by rw [i64w (by omega)] <;> rfl, by rw [hn, ← h3] <;> rfl⟩
    | false =>
    rw [c3] at er
    cases bare with
    | false =>
      repeat' (first | refine run ⟨?_⟩ | refine pickD pj ?_ | refine ca (en _) ?_ | refine mg h1 h2 ?_ | refine ca (er) ?_ | fail)
      exact rfl
    | true =>
    by_cases c4 : t = []
    · rw [decide_eq_true c4]
      have c5 : (!decide (t = [])) = false := by simp [c4]
      repeat' (first | refine run ⟨?_⟩ | refine pickD pj ?_ | refine ca (en _) ?_ | refine mg h1 h2 ?_ | refine ca (er) ?_ | refine And.intro h1 ?_ | fail)
      exact ⟨j + 1, ⟨by omega, by rw [hn]; rfl⟩, by omega, by rw [i64w (by omega)] <;> rfl, by rw [hn, ← h3] <;> rfl⟩
    · rw [decide_eq_false c4]
      have c5 : (!decide (t = [])) = true := by simp [c4]
      repeat' (first | refine run ⟨?_⟩ | refine pickD pj ?_ | refine ca (en _) ?_ | refine mg h1 h2 ?_ | refine ca (er) ?_ | fail)
      exact rfl
  · have h' : ¬ (j : Int) < (l.length : Int) := by omega
    obtain rfl : j = l.length := by omega
    rw [List.drop_length, show lstB (rt (kn x) ref) bare ((l.take l.length).map Fld.n) [] = true from rfl, Bool.true_and]
    have hv : boo (decide ((((l.map Fld.D).length : Nat) : Int) ≤ most)) = boo (decide ((l.length : Int) ≤ most)) := by rw [List.length_map]
    repeat' (first | refine run ⟨?_⟩ | refine And.intro hv ?_ | fail)
    exact rfl
end
end Go.Vm.Typ
namespace Go.Vm.Typ
open Go.Vm.Ip
open Go.Vm.Lex (nameB)
set_option maxRecDepth 10000
section
variable {fx : Nat → Option Obj} {F : Nat → Option VFun}
theorem takeFN {l : List Fnc} {i : Nat} (h : i < l.length) : (l.take (i + 1)).map Fnc.n = (l.take i).map Fnc.n ++ [(l.getD i default).n] := by
  rw [take_succ_getD h, List.map_append]; rfl
theorem takeFD {l : List Fnc} {i : Nat} (h : i < l.length) : (l.take (i + 1)).map Fnc.d = (l.take i).map Fnc.d ++ [(l.getD i default).d] := by
  rw [take_succ_getD h, List.map_append]; rfl
abbrev FNH (x : Its) (a : List S) (b : List Int) : Hp := [.map (finM (nS x)), .map (finM (nE x)), .map (finM (nF x)), .box [.mp 0, .mp 1, .mp 2], IB x, .map (seenM a), .map (nodM b)]
abbrev FB (f : Fnc) : Ob := .box [str f.n, .d (fldsD f.ps), .d (.sl (f.ms.map .bool)), str f.r, i64 f.d]
set_option maxHeartbeats 4000000 in
theorem fns_s (x : Its) (hx : Fine x) : evF (pgL fx F) n_items_fns [.d x.D, .ptr 3 0] (FH x) = some (boo (fnsB (kn x) x), FH x) := by
  apply up
  have hl' : x.fs.length ≤ 140737488355328 := hx.fs
  obtain ⟨l, hl⟩ : ∃ l, l = x.fs := ⟨_, rfl⟩
  unfold fnsB
  have hff := hx.ff
  refine evF_wqOn (t_items_fns (F := F)) rfl rfl rfl ?_
  refine run ⟨?_⟩
  refine wq_loop (α := Nat) (fun j => l.length - j) (fun j => [(1, .ptr 3 0), (2, .ptr 4 0), (5, .mp 5), (6, .mp 6), (15, .d (.sl (l.map Fnc.D))), (16, i64 l.length), (17, i64 j)]) (fun j => FNH x ([printT, readT, panicT] ++ (l.take j).map Fnc.n) ((l.take j).map Fnc.d)) (fun j => j ≤ l.length ∧ fncB (kn x) [printT, readT, panicT] [] l = fncB (kn x) ([printT, readT, panicT] ++ (l.take j).map Fnc.n) ((l.take j).map Fnc.d) (l.drop j)) ?_ 0 ⟨Nat.zero_le _, rfl⟩ (by rw [hl]; show [_, _, _, _, _, _, _] = _; rw [List.length_map]; rfl) rfl
  rw [← hl] at hl' hff ⊢
  rintro j ⟨hj, hinv⟩
  rw [hinv]
  by_cases h : j < l.length
  · have h' : (j : Int) < (l.length : Int) := by omega
    have pj := gF h
    have hn := takeFN h
    have hnd := takeFD h
    have hd := drop_getD (d := default) h
    have hfm := hff (l.getD j default) (by simp [List.getD_eq_getElem?_getD, List.getElem?_eq_getElem h])
    revert pj hn hd hnd hfm
    generalize l.getD j default = f
    generalize hA : [printT, readT, panicT] ++ (l.take j).map Fnc.n = A
    generalize hB : (l.take j).map Fnc.d = B
    intro pj hn hnd hd hfm
    have h1 := seenM_keys A
    have h2 := seenM_find f.n A
    have h3 := seenM_set f.n A
    have k1 := nodM_keys B
    have k2 := nodM_find f.d B
    have k3 := nodM_set f.d B
    have el : evF (pgL fx F0) n_items_finder_listed [.ptr 3 0, .d (fldsD f.ps), i64 6, boo true, boo false] (FNH x A B ++ [FB f]) = some (boo (lstB (rt (kn x) true) false [] f.ps && decide ((f.ps.length : Int) ≤ 6)), FNH x A B ++ [FB f]) :=
      evF_at (mv fx) [0, 1, 2, 3] (listed_s x f.ps hfm.2.2.2.1 hfm.2.2.2.2.1 6 true false) rfl rfl rfl rfl rfl
    have er : evF (pgL fx F0) n_items_finder_right [.ptr 3 0, str f.r, boo true] (FNH x A B ++ [FB f]) = some (boo (rightR (kn x) f.r), FNH x A B ++ [FB f]) :=
      evF_at (mv fx) [0, 1, 2, 3] (rightt_s x f.r hfm.2.1) rfl rfl rfl rfl rfl
    have en := name_ev (fx := fx) (F := F0) (s := f.n) (hs := Nat.le_trans hfm.1 (by decide))
    rw [hd]
    simp only [fncB]
    cases c1 : nameB f.n with
    | false =>
      rw [c1] at en
      repeat' (first | refine run ⟨?_⟩ | refine pickD pj ?_ | refine ca (en _) ?_ | fail)
      exact rfl
    | true =>
    rw [c1] at en
    by_cases c2 : f.n ∈ A
    · rw [if_pos c2] at h2
      rw [decide_eq_true c2]
      repeat' (first | refine run ⟨?_⟩ | refine pickD pj ?_ | refine ca (en _) ?_ | refine mg h1 h2 ?_ | fail)
      exact rfl
    rw [if_neg c2] at h2
    rw [decide_eq_false c2]
    have h3 := h3 c2
    have lms : (f.ms.map D.bool).length = f.ms.length := List.length_map ..
    have lps : (f.ps.map Fld.D).length = f.ps.length := List.length_map ..
    by_cases c3 : f.ms.length = f.ps.length
    · rw [decide_eq_true c3]
      have d3 : (!decide (((f.ms.map D.bool).length : Int) = ((f.ps.map Fld.D).length : Int))) = false := by rw [lms, lps, c3]; simp
      cases c4 : lstB (rt (kn x) true) false [] f.ps && decide ((f.ps.length : Int) ≤ 6) with
      | false =>
        rw [c4] at el
        repeat' (first | refine run ⟨?_⟩ | refine pickD pj ?_ | refine ca (en _) ?_ | refine mg h1 h2 ?_ | refine ca (el) ?_ | fail)
        exact rfl
      | true =>
      rw [c4] at el
      cases c5 : rightR (kn x) f.r with
      | false =>
        rw [c5] at er
        repeat' (first | refine run ⟨?_⟩ | refine pickD pj ?_ | refine ca (en _) ?_ | refine mg h1 h2 ?_ | refine ca (el) ?_ | refine ca (er) ?_ | fail)
        exact rfl
      | true =>
      rw [c5] at er
      by_cases c6 : f.d < 0
      · rw [decide_eq_true c6]
        repeat' (first | refine run ⟨?_⟩ | refine pickD pj ?_ | refine ca (en _) ?_ | refine mg h1 h2 ?_ | refine ca (el) ?_ | refine ca (er) ?_ | fail)
        exact rfl
      rw [decide_eq_false c6]
      by_cases c7 : f.d ∈ B
      · rw [if_pos c7] at k2
        rw [decide_eq_true c7]
        repeat' (first | refine run ⟨?_⟩ | refine pickD pj ?_ | refine ca (en _) ?_ | refine mg h1 h2 ?_ | refine ca (el) ?_ | refine ca (er) ?_ | refine mg k1 k2 ?_ | fail)
        exact rfl
      rw [if_neg c7] at k2
      rw [decide_eq_false c7]
      have k3 := k3 c7
      repeat' (first | refine run ⟨?_⟩ | refine pickD pj ?_ | refine ca (en _) ?_ | refine mg h1 h2 ?_ | refine ca (el) ?_ | refine ca (er) ?_ | refine mg k1 k2 ?_ | refine And.intro h1 ?_ | refine And.intro k1 ?_ | fail)
      refine ⟨j + 1, ⟨by omega, by rw [hn, hnd, ← List.append_assoc, hA]; rfl⟩, by omega, by rw [i64w (by omega)] <;> rfl, by rw [hn, hnd, ← List.append_assoc, hA, FNH, ← h3, ← k3] <;> rfl⟩
    · rw [decide_eq_false c3]
      have d3 : (!decide (((f.ms.map D.bool).length : Int) = ((f.ps.map Fld.D).length : Int))) = true := by rw [lms, lps]; simp; omega
      repeat' (first | refine run ⟨?_⟩ | refine pickD pj ?_ | refine ca (en _) ?_ | refine mg h1 h2 ?_ | fail)
      exact rfl
  · have h' : ¬ (j : Int) < (l.length : Int) := by omega
    obtain rfl : j = l.length := by omega
    rw [List.drop_length, show fncB (kn x) ([printT, readT, panicT] ++ (l.take l.length).map Fnc.n) ((l.take l.length).map Fnc.d) [] = true from rfl, Bool.true_and]
    generalize [printT, readT, panicT] ++ (l.take l.length).map Fnc.n = A
    generalize (l.take l.length).map Fnc.d = B
    have e2 : evF (pgL fx F0) n_items_table_find [.ptr 3 2, str mainT] (FNH x A B) = some (.tup [i64 (loc (nF x) mainT), boo (known (nF x) mainT)], FNH x A B) :=
      evF_at (mv fx) [0, 1, 2, 3] (find2_s x mainT) rfl rfl rfl rfl rfl
    have hlen : (nF x).length = x.fs.length := by simp [nF]
    have hg : ∀ i, pos (nF x) mainT = some i → i < x.fs.length := fun i h => by have := pos_lt h; omega
    unfold mainB
    unfold loc known at e2
    revert e2 hg
    cases pos (nF x) mainT with
    | none =>
      intro e2 _
      repeat' (first | refine run ⟨?_⟩ | refine ca (e2) ?_ | fail)
      exact rfl
    | some i =>
      intro e2 hg
      dsimp only at e2 ⊢
      have pi := gF (hg i rfl)
      revert pi
      generalize x.fs.getD i default = y
      intro pi
      have hv : ((y.ps.map Fld.D).length : Int) = (y.ps.length : Int) := by rw [List.length_map]
      by_cases c1 : y.ps.length = 0
      · have c1' : (((y.ps.map Fld.D).length : Nat) : Int) = 0 := by omega
        rw [decide_eq_true c1, Bool.true_and]
        repeat' (first | refine run ⟨?_⟩ | refine ca (e2) ?_ | refine pickD pi ?_ | fail)
        exact rfl
      · have c1' : ¬ (((y.ps.map Fld.D).length : Nat) : Int) = 0 := by omega
        rw [decide_eq_false c1, Bool.false_and]
        repeat' (first | refine run ⟨?_⟩ | refine ca (e2) ?_ | refine pickD pi ?_ | fail)
        exact rfl
end
end Go.Vm.Typ
namespace Go.Vm.Typ
open Go.Vm.Ip
set_option maxRecDepth 10000
def SzD (v : Int × Int) : V := .d (.agg [.int .i64 v.1, .int .i64 v.2])
abbrev SZB (v : Int × Int) : Ob := .box [i64 v.1, i64 v.2]
abbrev SH (x : Its) (d : List (S × Int × Int)) : Hp := [.map (finM (nS x)), .map (finM (nE x)), .map (finM (nF x)), .box [.mp 0, .mp 1, .mp 2], .map (szM d)]
theorem gS {l : List S} {i : Nat} (h : i < l.length) : 0 ≤ (i : Int) ∧ (l.map D.str)[(i : Int).toNat]? = some (.str (l.getD i [])) := by
  refine ⟨by omega, ?_⟩
  rw [Int.toNat_natCast, List.getElem?_map, List.getElem?_eq_getElem h]
  simp [List.getD_eq_getElem?_getD, List.getElem?_eq_getElem h]
theorem fold_succ {α : Type} {g : α → S → α} {l : List S} {j : Nat} {a : α} (h : j < l.length) : (l.take (j + 1)).foldl g a = g ((l.take j).foldl g a) (l.getD j []) := by
  rw [take_succ_getD (d := []) h, List.foldl_append]; rfl
theorem held_len {x : Its} (hx : Fine x) (s : S) : (heldM x s).1.length ≤ 4398046511104 := by
  unfold heldM
  have hS : (nS x).length = x.ss.length := by simp [nS]
  have hE : (nE x).length = x.es.length := by simp [nE]
  split
  · rename_i i hi
    have h := pos_lt hi
    have : x.ss.getD i default ∈ x.ss := by simp [List.getD_eq_getElem?_getD, List.getElem?_eq_getElem (show i < x.ss.length by omega)]
    have := (hx.sf _ this).2.1
    rw [List.length_map]; exact this
  · split
    · rename_i i hi
      have h := pos_lt hi
      have : x.es.getD i default ∈ x.es := by simp [List.getD_eq_getElem?_getD, List.getElem?_eq_getElem (show i < x.es.length by omega)]
      have := (hx.ef _ this).2.1
      exact Nat.le_trans (someT_len _) this
    · exact Nat.zero_le _
section
variable {fx : Nat → Option Obj}
set_option maxHeartbeats 4000000 in
theorem sized_s (x : Its) (hx : Fine x) (N : Nat) (hN : N ≤ 1000000) : ∀ (f : Nat) (s : S), deepOk x f s → f ≤ N → ∀ d, SzOk x N d → ∃ r H2, evF (pgL fx F0) n_items_sized [.d x.D, .ptr 3 0, str s, .mp 4] (SH x d) = some (r, H2) ∧ r = SzD (szF x f s) ∧ ∃ d', SzOk x N d' ∧ H2 = SH x d'
  | 0, _, h, _, _, _ => h.elim
  | f + 1, s, hdeep, hfN, d, hd => by
    have ih := fun (y : S) (hy : y ∈ (heldM x s).1) (d : List (S × Int × Int)) (hd : SzOk x N d) => sized_s x hx N hN f y (hdeep y hy) (by omega) d hd
    refine evF_wqOnE (t_items_sized (F := F0)) rfl rfl rfl ?_
    rcases szM_find s d with hf | ⟨w, p, hm, hf⟩
    · have hend : ∀ d, SzOk x N d → ∀ v, v = szF x (f + 1) s → ∃ d', SzOk x N d' ∧ mset (.str s) (.agg [.int .i64 v.1, .int .i64 v.2]) (szM d) = szM d' := fun d hd v hv => by
        obtain ⟨d', h1, h2⟩ := szM_set s v.1 v.2 d
        refine ⟨d', fun q hq => ?_, h1⟩
        rcases h2 q hq with h | h
        · exact hd q h
        · rw [h]; exact ⟨deepOk_le hdeep hfN, by rw [show (s, v.1, v.2).2 = v from rfl, show (s, v.1, v.2).1 = s from rfl, hv]; exact (szF_le hdeep hfN).symm⟩
      have eh : evF (pgL fx F0) n_items_held [.d x.D, .ptr 3 0, str s] (SH x d ++ [IB x, SZB (0, 0), SZB (0, 0)]) = some (.tup [strs (heldM x s).1, boo (heldM x s).2], SH x d ++ [IB x, SZB (0, 0), SZB (0, 0)]) :=
        evF_at (mv fx) [0, 1, 2, 3] (held_s x hx s) rfl rfl rfl rfl rfl
      have e1 : evF (pgL fx F0) n_items_table_find [.ptr 3 0, str s] (SH x d ++ [IB x, SZB (0, 0), SZB (0, 0), SZB (1, 1)]) = some (.tup [i64 (loc (nS x) s), boo (known (nS x) s)], SH x d ++ [IB x, SZB (0, 0), SZB (0, 0), SZB (1, 1)]) :=
        evF_at (mv fx) [0, 1, 2, 3] (find0_s x s) rfl rfl rfl rfl rfl
      rw [szF] at *
      have hlen : (heldM x s).1.length ≤ 4398046511104 := held_len hx s
      have hb := szF_bound x f
      revert ih eh hlen hend hdeep
      generalize (heldM x s).1 = l
      cases (heldM x s).2 with
      | true =>
        intro _ ih hend eh hlen
        simp only [if_true] at hend ⊢
        repeat' (first | refine run ⟨?_⟩ | refine mg (szM_keys _) hf ?_ | refine ca (eh) ?_ | refine ca (e1) ?_ | fail)
        refine wq_loop (α := Nat × List (S × Int × Int)) (fun a => l.length - a.1) (fun a => [(1, .ptr 3 0), (2, str s), (3, .mp 4), (4, .ptr 5 0), (8, .ptr 6 0), (13, .ptr 8 0), (48, strs l), (49, i64 l.length), (50, i64 a.1)]) (fun a => SH x a.2 ++ [IB x, SZB (0, 0), SZB (0, 0), SZB ((l.take a.1).foldl (fun a y => addE a (szF x f y)) (1, 1))]) (fun a => a.1 ≤ l.length ∧ SzOk x N a.2) ?_ (0, d) ⟨Nat.zero_le _, hd⟩ (by show [_, _, _, _, _, _, _, _, _] = _; rw [List.length_map] <;> rfl) rfl
        rintro ⟨j, d2⟩ ⟨hj, hd2⟩
        dsimp only at hj hd2
        by_cases h : j < l.length
        · have h' : (j : Int) < (l.length : Int) := by omega
          have pj := gS h
          obtain ⟨r, H2, hev, hr, d3, hd3, hH⟩ := ih (l.getD j []) (by simp [List.getD_eq_getElem?_getD, List.getElem?_eq_getElem h]) d2 hd2
          subst hr hH
          have ha := addE_fold hb (by omega) (l.take j) (1, 1) (by decide) (by show (1 : Int) ≤ _; omega) (by decide) (by decide)
          have hs := fold_succ (g := fun a y => addE a (szF x f y)) (a := (1, 1)) h
          have hv := hb (l.getD j [])
          have ei : evF (pgL fx F0) n_items_sized [.d x.D, .ptr 3 0, str (l.getD j []), .mp 4] (SH x d2 ++ [IB x, SZB (0, 0), SZB (0, 0), SZB ((l.take j).foldl (fun a y => addE a (szF x f y)) (1, 1))]) = some (SzD (szF x f (l.getD j [])), SH x d3 ++ [IB x, SZB (0, 0), SZB (0, 0), SZB ((l.take j).foldl (fun a y => addE a (szF x f y)) (1, 1))]) :=
            evF_at (mv fx) [0, 1, 2, 3, 4] hev rfl rfl rfl rfl rfl
          revert pj ha hs hv ei
          generalize (l.take j).foldl (fun a y => addE a (szF x f y)) (1, 1) = A
          generalize l.getD j [] = y
          generalize szF x f y = v
          intro pj ha hs hv ei
          repeat' (first | refine run ⟨?_⟩ | refine pickD pj ?_ | refine ca (ei) ?_ | fail)
          refine ⟨(j + 1, d3), ⟨by show j + 1 ≤ _; omega, hd3⟩, by show _ - (j + 1) < _ - j; omega, by rw [i64w (by omega)] <;> rfl, ?_⟩
          dsimp only
          rw [hs, i64w (by omega), i64w (by omega)]; rfl
        · have h' : ¬ (j : Int) < (l.length : Int) := by omega
          obtain rfl : j = l.length := by omega
          rw [List.take_length]
          obtain ⟨d4, g1, g2⟩ := hend d2 hd2 _ rfl
          revert g2
          generalize l.foldl (fun a y => addE a (szF x f y)) (1, 1) = A
          intro g2
          repeat' (first | refine run ⟨?_⟩ | refine And.intro (szM_keys _) ?_ | fail)
          exact ⟨d4, g1, by show _ = [_, _, _, _, Ob.map (szM d4)]; rw [← g2]; rfl⟩
      | false =>
        intro _ ih hend eh hlen
        simp only [Bool.false_eq_true, if_false] at hend ⊢
        cases ck : known (nS x) s with
        | true =>
          rw [ck] at e1
          simp only [ck, if_true] at hend ⊢
          repeat' (first | refine run ⟨?_⟩ | refine mg (szM_keys _) hf ?_ | refine ca (eh) ?_ | refine ca (e1) ?_ | fail)
          refine wq_loop (α := Nat × List (S × Int × Int)) (fun a => l.length - a.1) (fun a => [(1, .ptr 3 0), (2, str s), (3, .mp 4), (4, .ptr 5 0), (8, .ptr 6 0), (13, .ptr 8 0), (77, strs l), (78, i64 l.length), (79, i64 a.1)]) (fun a => SH x a.2 ++ [IB x, SZB (0, 0), SZB (0, 0), SZB ((l.take a.1).foldl (fun a y => addS a (szF x f y)) (0, 1))]) (fun a => a.1 ≤ l.length ∧ SzOk x N a.2) ?_ (0, d) ⟨Nat.zero_le _, hd⟩ (by show [_, _, _, _, _, _, _, _, _] = _; rw [List.length_map] <;> rfl) rfl
          rintro ⟨j, d2⟩ ⟨hj, hd2⟩
          dsimp only at hj hd2
          by_cases h : j < l.length
          · have h' : (j : Int) < (l.length : Int) := by omega
            have pj := gS h
            obtain ⟨r, H2, hev, hr, d3, hd3, hH⟩ := ih (l.getD j []) (by simp [List.getD_eq_getElem?_getD, List.getElem?_eq_getElem h]) d2 hd2
            subst hr hH
            have ha := addS_fold hb (l.take j) (0, 1) (by decide) (by decide) (by decide) (by decide)
            have hs := fold_succ (g := fun a y => addS a (szF x f y)) (a := (0, 1)) h
            have hv := hb (l.getD j [])
            have ei : evF (pgL fx F0) n_items_sized [.d x.D, .ptr 3 0, str (l.getD j []), .mp 4] (SH x d2 ++ [IB x, SZB (0, 0), SZB (0, 0), SZB ((l.take j).foldl (fun a y => addS a (szF x f y)) (0, 1))]) = some (SzD (szF x f (l.getD j [])), SH x d3 ++ [IB x, SZB (0, 0), SZB (0, 0), SZB ((l.take j).foldl (fun a y => addS a (szF x f y)) (0, 1))]) :=
              evF_at (mv fx) [0, 1, 2, 3, 4] hev rfl rfl rfl rfl rfl
            revert pj ha hs hv ei
            generalize (l.take j).foldl (fun a y => addS a (szF x f y)) (0, 1) = A
            generalize l.getD j [] = y
            generalize szF x f y = v
            intro pj ha hs hv ei
            repeat' (first | refine run ⟨?_⟩ | refine pickD pj ?_ | refine ca (ei) ?_ | fail)
            refine ⟨(j + 1, d3), ⟨by show j + 1 ≤ _; omega, hd3⟩, by show _ - (j + 1) < _ - j; omega, by rw [i64w (by omega)] <;> rfl, ?_⟩
            dsimp only
            rw [hs, i64w (by omega), i64w (by omega)]; rfl
          · have h' : ¬ (j : Int) < (l.length : Int) := by omega
            obtain rfl : j = l.length := by omega
            rw [List.take_length]
            obtain ⟨d4, g1, g2⟩ := hend d2 hd2 _ rfl
            revert g2
            generalize l.foldl (fun a y => addS a (szF x f y)) (0, 1) = A
            intro g2
            repeat' (first | refine run ⟨?_⟩ | refine And.intro (szM_keys _) ?_ | fail)
            exact ⟨d4, g1, by show _ = [_, _, _, _, Ob.map (szM d4)]; rw [← g2]; rfl⟩
        | false =>
          rw [ck] at e1
          simp only [ck, Bool.false_eq_true, if_false] at hend ⊢
          by_cases cu : s = unitT
          · rw [if_pos cu] at hend ⊢
            have cu' : s = [40, 41] := cu
            obtain ⟨d4, g1, g2⟩ := hend d hd _ rfl
            repeat' (first | refine run ⟨?_⟩ | refine mg (szM_keys _) hf ?_ | refine ca (eh) ?_ | refine ca (e1) ?_ | refine And.intro (szM_keys _) ?_ | fail)
            exact ⟨d4, g1, by show _ = [_, _, _, _, Ob.map (szM d4)]; rw [← g2]; rfl⟩
          · rw [if_neg cu] at hend ⊢
            have cu' : ¬ s = [40, 41] := cu
            obtain ⟨d4, g1, g2⟩ := hend d hd _ rfl
            repeat' (first | refine run ⟨?_⟩ | refine mg (szM_keys _) hf ?_ | refine ca (eh) ?_ | refine ca (e1) ?_ | refine And.intro (szM_keys _) ?_ | fail)
            exact ⟨d4, g1, by show _ = [_, _, _, _, Ob.map (szM d4)]; rw [← g2]; rfl⟩
    · obtain ⟨q1, q2⟩ := hd _ hm
      have hw : (w, p) = szF x (f + 1) s := by rw [show (w, p) = (s, w, p).2 from rfl, q2]; exact szF_any q1 hdeep
      rw [← hw]
      repeat' (first | refine run ⟨?_⟩ | refine mg (szM_keys _) hf ?_ | fail)
      exact ⟨d, hd, rfl⟩
end
end Go.Vm.Typ
