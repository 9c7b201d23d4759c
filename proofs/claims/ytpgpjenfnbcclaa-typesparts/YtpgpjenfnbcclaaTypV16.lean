import Derived.Test.YtpgpjenfnbcclaaTypV12
import Derived.Test.YtpgpjenfnbcclaaTypArg
set_option linter.unusedSimpArgs false
set_option linter.unusedVariables false
namespace Go.Vm.Typ
open Go Go.Vm Go.Proofs Go.Vm.Ip
open Go.Vm.Lex (nameB)
set_option maxRecDepth 10000
section
variable {fx : Nat → Option Obj} {F : Nat → Option VFun}
theorem built_ev (s : S) (H : Hp) : evF (pgL fx F) n_ref14_built [str s] H = some (boo (biB s), H) := by
  refine evF_wq (t_ref14_built (F := F)) rfl rfl ?_ H
  unfold biB
  by_cases c5 : s = printT
  · have c5' : s = [112, 114, 105, 110, 116] := c5
    rw [decide_eq_true c5]
    refine run ⟨?_⟩
    exact rfl
  rw [decide_eq_false c5]
  have c5' : ¬ s = [112, 114, 105, 110, 116] := c5
  by_cases c6 : s = readT
  · have c6' : s = [114, 101, 97, 100] := c6
    rw [decide_eq_true c6]
    refine run ⟨?_⟩
    exact rfl
  rw [decide_eq_false c6]
  have c6' : ¬ s = [114, 101, 97, 100] := c6
  refine run ⟨?_⟩
  exact rfl
theorem gS2 {l : List S} {i : Nat} (h : i < l.length) : 0 ≤ (i : Int) ∧ (l.map D.str)[(i : Int).toNat]? = some (.str (l.getD i [])) := by
  refine ⟨by omega, ?_⟩
  rw [Int.toNat_natCast, List.getElem?_map, List.getElem?_eq_getElem h]
  simp [List.getD_eq_getElem?_getD, List.getElem?_eq_getElem h]
theorem has_ev (l : List S) (hl : l.length ≤ mx) (s : S) (H : Hp) : evF (pgL fx F) n_ref14_has [.d (.sl (l.map D.str)), str s] H = some (boo (decide (s ∈ l)), H) := by
  have hl' : l.length ≤ 140737488355328 := hl
  have hlm : (l.map D.str).length = l.length := List.length_map ..
  refine evF_wq (t_ref14_has (F := F)) rfl rfl ?_ H
  refine run ⟨?_⟩
  refine wq_loop (α := Nat) (fun a => l.length - a) (fun a => [(0, .d (.sl (l.map D.str))), (1, str s), (5, i64 a)]) (fun _ => []) (fun a => a ≤ l.length ∧ s ∉ l.take a) ?_ 0 ⟨Nat.zero_le _, by simp⟩ rfl rfl
  rintro j ⟨hj, hs⟩
  by_cases h : j < l.length
  · have h' : (j : Int) < ((l.map D.str).length : Int) := by rw [hlm]; omega
    have pj := gS2 h
    have ht := take_succ_getD (d := []) h
    have hm : l.getD j [] ∈ l := by simp [List.getD_eq_getElem?_getD, List.getElem?_eq_getElem h]
    revert pj ht hm
    generalize l.getD j [] = y
    intro pj ht hm
    by_cases c : y = s
    · rw [decide_eq_true (c ▸ hm)]
      repeat' (first | refine run ⟨?_⟩ | refine pickD pj ?_ | fail)
      exact rfl
    · have hs2 : s ∉ l.take (j + 1) := by
        rw [ht, List.mem_append, List.mem_singleton, not_or]
        exact ⟨hs, fun e => c e.symm⟩
      repeat' (first | refine run ⟨?_⟩ | refine pickD pj ?_ | fail)
      exact ⟨j + 1, ⟨by omega, hs2⟩, by omega, by rw [i64w (by omega)] <;> rfl, rfl⟩
  · have h' : ¬ (j : Int) < ((l.map D.str).length : Int) := by rw [hlm]; omega
    obtain rfl : j = l.length := by omega
    rw [List.take_length] at hs
    rw [decide_eq_false hs]
    refine run ⟨?_⟩
    exact rfl
set_option maxHeartbeats 1000000 in
theorem parts_ev (x : Its) (hx : Fine x) (s : S) (H : Hp) : evF (pgL fx F) n_ref14_parts [.d x.D, str s] H = some (.tup [.d (fldsD (flM x s)), boo (enB x s), boo (kn x s)], H) := by
  have hl1 : x.ss.length ≤ 140737488355328 := hx.ss
  have hl2 : x.es.length ≤ 140737488355328 := hx.es
  have m1 : (x.ss.map Nam.D).length = x.ss.length := List.length_map ..
  have m2 : (x.es.map Nam.D).length = x.es.length := List.length_map ..
  refine evF_wq (t_ref14_parts (F := F)) rfl rfl ?_ H
  unfold flM enB kn nam
  rw [show x.ss.map Nam.n = nS x from rfl, show x.es.map Nam.n = nE x from rfl]
  unfold known
  refine run ⟨?_⟩
  refine wq_loop (α := Nat) (fun a => x.ss.length - a) (fun a => [(1, str s), (2, .ptr 0 0), (7, i64 a)]) (fun _ => [IB x]) (fun a => a ≤ x.ss.length ∧ ∀ j, j < a → (nS x)[j]? ≠ some s) ?_ 0 ⟨Nat.zero_le _, fun j h => absurd h (Nat.not_lt_zero j)⟩ rfl rfl
  rintro j ⟨hj, hs⟩
  by_cases h : j < x.ss.length
  · have h' : (j : Int) < ((x.ss.map Nam.D).length : Int) := by rw [m1]; omega
    have pj := gN h
    have hg : (nS x)[j]? = some (x.ss.getD j default).n := by
      unfold nS
      rw [List.getElem?_map, List.getElem?_eq_getElem h, List.getD_eq_getElem?_getD, List.getElem?_eq_getElem h]; rfl
    by_cases c : (x.ss.getD j default).n = s
    · rw [pos_of (c ▸ hg) hs]
      dsimp only
      revert pj c
      generalize x.ss.getD j default = y
      obtain ⟨n, fs⟩ := y
      intro pj c
      dsimp only at c ⊢
      repeat' (first | refine run ⟨?_⟩ | refine pickD pj ?_ | fail)
      exact rfl
    · have hs2 : ∀ i, i < j + 1 → (nS x)[i]? ≠ some s := fun i hi => by
        rcases Nat.lt_succ_iff_lt_or_eq.1 hi with q | q
        · exact hs i q
        · rw [q, hg]; exact fun e => c (Option.some.inj e)
      revert pj c
      generalize x.ss.getD j default = y
      obtain ⟨n, fs⟩ := y
      intro pj c
      dsimp only at c
      repeat' (first | refine run ⟨?_⟩ | refine pickD pj ?_ | fail)
      exact ⟨j + 1, ⟨by omega, hs2⟩, by omega, by rw [i64w (by omega)] <;> rfl, rfl⟩
  · have h' : ¬ (j : Int) < ((x.ss.map Nam.D).length : Int) := by rw [m1]; omega
    have hv : pos (nS x) s = none := by
      cases hp : pos (nS x) s with
      | none => rfl
      | some i =>
        have := pos_lt hp
        unfold nS at this
        rw [List.length_map] at this
        exact absurd (pos_some hp).1 (hs i (by omega))
    rw [hv]
    dsimp only
    refine run ⟨?_⟩
    refine wq_loop (α := Nat) (fun a => x.es.length - a) (fun a => [(1, str s), (2, .ptr 0 0), (8, i64 a)]) (fun _ => [IB x]) (fun a => a ≤ x.es.length ∧ ∀ j, j < a → (nE x)[j]? ≠ some s) ?_ 0 ⟨Nat.zero_le _, fun j h => absurd h (Nat.not_lt_zero j)⟩ rfl rfl
    rintro j ⟨hj, hs⟩
    by_cases h : j < x.es.length
    · have h' : (j : Int) < ((x.es.map Nam.D).length : Int) := by rw [m2]; omega
      have pj := gN h
      have hg : (nE x)[j]? = some (x.es.getD j default).n := by
        unfold nE
        rw [List.getElem?_map, List.getElem?_eq_getElem h, List.getD_eq_getElem?_getD, List.getElem?_eq_getElem h]; rfl
      by_cases c : (x.es.getD j default).n = s
      · rw [pos_of (c ▸ hg) hs]
        dsimp only
        revert pj c
        generalize x.es.getD j default = y
        obtain ⟨n, fs⟩ := y
        intro pj c
        dsimp only at c ⊢
        repeat' (first | refine run ⟨?_⟩ | refine pickD pj ?_ | fail)
        exact rfl
      · have hs2 : ∀ i, i < j + 1 → (nE x)[i]? ≠ some s := fun i hi => by
          rcases Nat.lt_succ_iff_lt_or_eq.1 hi with q | q
          · exact hs i q
          · rw [q, hg]; exact fun e => c (Option.some.inj e)
        revert pj c
        generalize x.es.getD j default = y
        obtain ⟨n, fs⟩ := y
        intro pj c
        dsimp only at c
        repeat' (first | refine run ⟨?_⟩ | refine pickD pj ?_ | fail)
        exact ⟨j + 1, ⟨by omega, hs2⟩, by omega, by rw [i64w (by omega)] <;> rfl, rfl⟩
    · have h' : ¬ (j : Int) < ((x.es.map Nam.D).length : Int) := by rw [m2]; omega
      have hv : pos (nE x) s = none := by
        cases hp : pos (nE x) s with
        | none => rfl
        | some i =>
          have := pos_lt hp
          unfold nE at this
          rw [List.length_map] at this
          exact absurd (pos_some hp).1 (hs i (by omega))
      rw [hv]
      refine run ⟨?_⟩
      exact rfl
end
end Go.Vm.Typ
namespace Go.Vm.Typ
open Go Go.Vm Go.Proofs Go.Vm.Ip
open Go.Vm.Lex (nameB)
set_option maxRecDepth 10000
section
variable {fx : Nat → Option Obj} {F : Nat → Option VFun}
set_option maxHeartbeats 1000000 in
theorem fields14_ev (l : List Fld) (hl : l.length ≤ mf) (hf : ∀ f ∈ l, f.n.length ≤ mx) (most : Int) (H : Hp) : evF (pgL fx F) n_ref14_fields [.d (fldsD l), i64 most] H = some (boo (fld14 l most), H) := by
  have hl' : l.length ≤ 4398046511104 := hl
  have hlm : (l.map Fld.D).length = l.length := List.length_map ..
  refine evF_wq (t_ref14_fields (F := F)) rfl rfl ?_ H
  unfold fld14
  refine run ⟨?_⟩
  refine wq_loop (α := Nat) (fun a => l.length - a) (fun a => [(0, .d (fldsD l)), (1, i64 most), (5, i64 a)]) (fun _ => []) (fun i => i ≤ l.length ∧ lstB anyT false [] l = lstB anyT false ((l.take i).map Fld.n) (l.drop i)) ?_ 0 ⟨Nat.zero_le _, rfl⟩ rfl rfl
  rintro i ⟨hi, hinv⟩
  rw [hinv]
  by_cases h : i < l.length
  · have h' : (i : Int) < ((l.map Fld.D).length : Int) := by rw [hlm]; omega
    have pi := gFl h
    have hn := takeN h
    have hd := drop_getD (d := default) h
    have hfm := hf _ (getD_mem h)
    revert pi hn hd hfm
    generalize l.getD i default = y
    obtain ⟨n, t⟩ := y
    intro pi hn hd hfm
    dsimp only at hn hfm
    have en := rname_ev (fx := fx) (F := F) (s := n) (hs := Nat.le_trans hfm (by decide))
    rw [hd]
    simp only [lstB]
    cases c1 : nameB n with
    | false =>
      rw [c1] at en
      repeat' (first | refine run ⟨?_⟩ | refine pickD pi ?_ | refine ca (en _) ?_ | fail)
      exact rfl
    | true =>
      rw [c1] at en
      repeat' (first | refine run ⟨?_⟩ | refine pickD pi ?_ | refine ca (en _) ?_ | fail)
      refine wq_loop (α := Nat) (fun a => i - a) (fun a => [(0, .d (fldsD l)), (1, i64 most), (5, i64 i), (6, i64 a)]) (fun _ => []) (fun k => k ≤ i ∧ n ∉ (l.take k).map Fld.n) ?_ 0 ⟨Nat.zero_le _, by simp⟩ rfl rfl
      rintro k ⟨hk, hs⟩
      by_cases g : k < i
      · have g' : (k : Int) < (i : Int) := by omega
        have pk := gFl (show k < l.length by omega)
        have hn2 := takeN (show k < l.length by omega)
        have hmem : (l.getD k default).n ∈ (l.take i).map Fld.n := by
          refine List.mem_map.2 ⟨_, ?_, rfl⟩
          rw [List.mem_take_iff_getElem]
          exact ⟨k, by omega, by rw [List.getD_eq_getElem?_getD, List.getElem?_eq_getElem (show k < l.length by omega)]; rfl⟩
        revert pk hn2 hmem
        generalize l.getD k default = z
        obtain ⟨m, u⟩ := z
        intro pk hn2 hmem
        dsimp only at hn2 hmem
        by_cases c : m = n
        · rw [c] at hmem
          rw [decide_eq_true hmem]
          repeat' (first | refine run ⟨?_⟩ | refine pickD pk ?_ | refine pickD pi ?_ | fail)
          exact rfl
        · have hs2 : n ∉ (l.take (k + 1)).map Fld.n := by
            rw [hn2, List.mem_append, List.mem_singleton, not_or]
            exact ⟨hs, fun e => c e.symm⟩
          repeat' (first | refine run ⟨?_⟩ | refine pickD pk ?_ | refine pickD pi ?_ | fail)
          exact ⟨k + 1, ⟨by omega, hs2⟩, by omega, by rw [i64w (by omega)] <;> rfl, rfl⟩
      · have g' : ¬ (k : Int) < (i : Int) := by omega
        obtain rfl : k = i := by omega
        rw [decide_eq_false hs]
        refine run ⟨?_⟩
        exact ⟨k + 1, ⟨by omega, by rw [hn]; rfl⟩, by omega, by rw [i64w (by omega)] <;> rfl, rfl⟩
  · have h' : ¬ (i : Int) < ((l.map Fld.D).length : Int) := by rw [hlm]; omega
    obtain rfl : i = l.length := by omega
    rw [List.drop_length, show lstB anyT false ((l.take l.length).map Fld.n) [] = true from rfl, Bool.true_and]
    have hv : boo (decide ((((l.map Fld.D).length : Nat) : Int) ≤ most)) = boo (decide ((l.length : Int) ≤ most)) := by rw [hlm]
    refine run ⟨?_⟩
    exact hv
set_option maxHeartbeats 1000000 in
theorem typed_ev (x : Its) (hx : Fine x) (s : S) (hs : s.length ≤ mx) (H : Hp) : evF (pgL fx F) n_ref14_typed [.d x.D, str s] H = some (boo (bareB (kn x) s), H) := by
  have hs' : s.length ≤ 140737488355328 := hs
  refine evF_wq (t_ref14_typed (F := F)) rfl rfl ?_ H
  refine run ⟨?_⟩
  refine wq_loop (α := S) (fun t => t.length) (fun t => [(1, str t), (2, .ptr 0 0)]) (fun _ => [IB x]) (fun t => t.length ≤ s.length ∧ bareB (kn x) s = bareB (kn x) t) ?_ s ⟨Nat.le_refl _, rfl⟩ rfl rfl
  rintro t ⟨ht, hinv⟩
  rw [hinv, bareB_eq]
  have e1 := starts4_ev (fx := fx) (F := F) t boxT
  have ep := parts_ev (fx := fx) (F := F) x hx t
  unfold boxB coreB
  cases c1 : preB t boxT with
  | true =>
    rw [c1] at e1
    rw [Bool.true_and]
    have h4 : 4 ≤ t.length := preB_len c1
    have hw : IntKind.i64.wrap (((t.length : Nat) : Int) - 1) = ((t.length - 1 : Nat) : Int) := by rw [i64w (by omega)]; omega
    have hn : (0 : Int) ≤ IntKind.i64.wrap (((t.length : Nat) : Int) - 1) := by rw [hw]; omega
    have pj : 0 ≤ IntKind.i64.wrap (((t.length : Nat) : Int) - 1) ∧ t[(IntKind.i64.wrap (((t.length : Nat) : Int) - 1)).toNat]? = some (t.getD (t.length - 1) 0) := by
      rw [hw]
      refine ⟨by omega, ?_⟩
      rw [Int.toNat_natCast, List.getD_eq_getElem?_getD, List.getElem?_eq_getElem (by omega)]; rfl
    have hbl := box_last t c1
    have hlen : sufB (t.drop 4) [62] = true → 5 ≤ t.length := fun h => by
      have := sufB_len h
      rw [List.length_drop] at this
      simp at this
      omega
    rw [hbl] at hlen ⊢
    revert pj hlen
    generalize t.getD (t.length - 1) 0 = c
    intro pj hlen
    have hc5 : ¬ t = [105, 54, 52] := fun h => by rw [h] at c1; exact absurd c1 (by decide)
    have hc6 : ¬ t = [98, 111, 111, 108] := fun h => by rw [h] at c1; exact absurd c1 (by decide)
    have hc7 : ¬ t = [40, 41] := fun h => by rw [h] at c1; exact absurd c1 (by decide)
    by_cases cc : c = 62
    · rw [decide_eq_true cc]
      have hlen := hlen (decide_eq_true cc)
      subst cc
      have hb : (4 : Nat) ≤ (IntKind.i64.wrap (((t.length : Nat) : Int) - 1)).toNat ∧ (IntKind.i64.wrap (((t.length : Nat) : Int) - 1)).toNat ≤ t.length := by rw [hw]; omega
      have hv : (t.drop 4).take ((t.drop 4).length - 1) = (t.take (t.length - 1)).drop 4 := by rw [List.drop_take, List.length_drop, show t.length - 4 - 1 = t.length - 1 - 4 by omega]
      rw [hv, if_pos rfl]
      repeat' (first | refine run ⟨?_⟩ | refine ca (e1 _) ?_ | refine pickD pj ?_ | refine And.intro (by decide) ?_ | refine And.intro hn ?_ | refine And.intro hb ?_ | fail)
      refine ⟨_, ⟨?_, rfl⟩, ?_, by rw [hw] <;> rfl, rfl⟩
      · rw [List.length_drop, List.length_take]; omega
      · show (List.drop 4 _).length < _
        rw [List.length_drop, List.length_take]; omega
    · rw [decide_eq_false cc, if_neg (by decide)]
      have c5 : ¬ ((c.toNat : Int) = 62) := fun h => cc (UInt8.toNat_inj.1 (by show c.toNat = 62; omega))
      rw [decide_eq_false (show ¬ t = i64T from hc5), decide_eq_false (show ¬ t = boolT from hc6), decide_eq_false (show ¬ t = unitT from hc7)]
      generalize flM x t = l at ep
      generalize kn x t = k at ep ⊢
      generalize enB x t = e at ep
      repeat' (first | refine run ⟨?_⟩ | refine ca (e1 _) ?_ | refine pickD pj ?_ | refine ca (ep _) ?_ | fail)
      exact rfl
  | false =>
    rw [c1] at e1
    rw [Bool.false_and, if_neg (by decide)]
    generalize flM x t = l at ep
    generalize kn x t = k at ep ⊢
    generalize enB x t = e at ep
    by_cases c5 : t = i64T
    · have c5' : t = [105, 54, 52] := c5
      rw [decide_eq_true c5]
      repeat' (first | refine run ⟨?_⟩ | refine ca (e1 _) ?_ | refine ca (ep _) ?_ | fail)
      exact rfl
    have c5' : ¬ t = [105, 54, 52] := c5
    rw [decide_eq_false c5]
    by_cases c6 : t = boolT
    · have c6' : t = [98, 111, 111, 108] := c6
      rw [decide_eq_true c6]
      repeat' (first | refine run ⟨?_⟩ | refine ca (e1 _) ?_ | refine ca (ep _) ?_ | fail)
      exact rfl
    have c6' : ¬ t = [98, 111, 111, 108] := c6
    rw [decide_eq_false c6]
    by_cases c7 : t = unitT
    · have c7' : t = [40, 41] := c7
      rw [decide_eq_true c7]
      repeat' (first | refine run ⟨?_⟩ | refine ca (e1 _) ?_ | refine ca (ep _) ?_ | fail)
      exact rfl
    have c7' : ¬ t = [40, 41] := c7
    rw [decide_eq_false c7]
    repeat' (first | refine run ⟨?_⟩ | refine ca (e1 _) ?_ | refine ca (ep _) ?_ | fail)
    exact rfl
theorem outer_ev (x : Its) (hx : Fine x) (s : S) (hs : s.length ≤ mx) (H : Hp) : evF (pgL fx F) n_ref14_outer [.d x.D, str s] H = some (boo (isB (kn x) s), H) := by
  have e1 := starts4_ev (fx := fx) (F := F) s mutT
  have e2 := starts4_ev (fx := fx) (F := F) s [38]
  have e3 := typed_ev (fx := fx) (F := F) x hx s hs
  have e4 := typed_ev (fx := fx) (F := F) x hx (s.drop 5) (by rw [List.length_drop]; omega)
  have e5 := typed_ev (fx := fx) (F := F) x hx (s.drop 1) (by rw [List.length_drop]; omega)
  rw [offR_drop]
  refine evF_wq (t_ref14_outer (F := F)) rfl rfl ?_ H
  cases c1 : preB s mutT with
  | true =>
    rw [c1] at e1
    have h5 : 5 ≤ s.length := preB_len c1
    have hb : (5 : Nat) ≤ s.length ∧ s.length ≤ s.length := ⟨h5, Nat.le_refl _⟩
    have e4 : ∀ H, evF (pgL fx F) n_ref14_typed [.d x.D, str ((s.take s.length).drop 5)] H = some (boo (bareB (kn x) (s.drop 5)), H) := by rw [List.take_length]; exact e4
    repeat' (first | refine run ⟨?_⟩ | refine ca (e1 _) ?_ | refine And.intro (by decide) ?_ | refine And.intro hb ?_ | refine ca (e4 _) ?_ | fail)
    exact rfl
  | false =>
    rw [c1] at e1
    cases c2 : preB s [38] with
    | true =>
      rw [c2] at e2
      have h5 : 1 ≤ s.length := preB_len c2
      have hb : (1 : Nat) ≤ s.length ∧ s.length ≤ s.length := ⟨h5, Nat.le_refl _⟩
      have e5 : ∀ H, evF (pgL fx F) n_ref14_typed [.d x.D, str ((s.take s.length).drop 1)] H = some (boo (bareB (kn x) (s.drop 1)), H) := by rw [List.take_length]; exact e5
      repeat' (first | refine run ⟨?_⟩ | refine ca (e1 _) ?_ | refine ca (e2 _) ?_ | refine And.intro (by decide) ?_ | refine And.intro hb ?_ | refine ca (e5 _) ?_ | fail)
      exact rfl
    | false =>
      rw [c2] at e2
      repeat' (first | refine run ⟨?_⟩ | refine ca (e1 _) ?_ | refine ca (e2 _) ?_ | refine ca (e3 _) ?_ | fail)
      exact rfl
end
end Go.Vm.Typ
namespace Go.Vm.Typ
open Go Go.Vm Go.Proofs Go.Vm.Ip
open Go.Vm.Lex (nameB)
set_option maxRecDepth 10000
section
variable {fx : Nat → Option Obj} {F : Nat → Option VFun}
theorem getF_mem {l : List Fnc} {j : Nat} (h : j < l.length) : l.getD j default ∈ l := by simp [List.getD_eq_getElem?_getD, List.getElem?_eq_getElem h]
theorem takeFF {l : List Fnc} {i : Nat} (h : i < l.length) : l.take (i + 1) = l.take i ++ [l.getD i default] := take_succ_getD h
set_option maxHeartbeats 4000000 in
theorem fun14_ev (x : Its) (hx : Fine x) (H : Hp) : evF (pgL fx F) n_ref14_functions [.d x.D] H = some (boo (fun14 x), H) := by
  have hl' : x.fs.length ≤ 140737488355328 := hx.fs
  have hff := hx.ff
  have hlm : (x.fs.map Fnc.D).length = x.fs.length := List.length_map ..
  unfold fun14
  obtain ⟨l, hl⟩ : ∃ l, l = x.fs := ⟨_, rfl⟩
  have hib : IB x = .box [.d (.sl (x.ss.map Nam.D)), .d (.sl (x.es.map Nam.D)), .d (.sl (l.map Fnc.D))] := by rw [hl]; rfl
  have hxd : x.D = .agg [.sl (x.ss.map Nam.D), .sl (x.es.map Nam.D), .sl (l.map Fnc.D)] := by rw [hl]; rfl
  rw [← hl] at hl' hff hlm ⊢
  refine evF_wq (t_ref14_functions (F := F)) rfl rfl ?_ H
  refine run ⟨?_⟩
  refine wq_loop (α := Nat × Bool) (fun a => l.length - a.1) (fun a => [(1, .ptr 0 0), (3, boo a.2), (4, i64 a.1)]) (fun _ => [.box [.d (.sl (x.ss.map Nam.D)), .d (.sl (x.es.map Nam.D)), .d (.sl (l.map Fnc.D))]]) (fun a => a.1 ≤ l.length ∧ a.2 = (l.take a.1).any mn14 ∧ fns14 (kn x) [] l = fns14 (kn x) (l.take a.1) (l.drop a.1)) ?_ (0, false) ⟨Nat.zero_le _, rfl, rfl⟩ rfl (by rw [← hib] <;> rfl)
  rintro ⟨i, m⟩ ⟨hi, hm, hinv⟩
  dsimp only at hi hm hinv
  rw [hinv]
  by_cases h : i < l.length
  · have h' : (i : Int) < ((l.map Fnc.D).length : Int) := by rw [hlm]; omega
    have pi := gF h
    have ht := takeFF h
    have hd := drop_getD (d := default) h
    have hfm := hff _ (getF_mem h)
    revert pi ht hd hfm
    generalize l.getD i default = y
    intro pi ht hd hfm
    rw [hd]
    simp only [fns14]
    have en := rname_ev (fx := fx) (F := F) (s := y.n) (hs := Nat.le_trans hfm.1 (by decide))
    have eb := built_ev (fx := fx) (F := F) y.n
    have ef := fields14_ev (fx := fx) (F := F) y.ps hfm.2.2.2.1 (fun f hf => (hfm.2.2.2.2.1 f hf).1) 6
    have eo := outer_ev (fx := fx) (F := F) x hx y.r hfm.2.1
    have ep := fun (j : Nat) (hj : j < y.ps.length) => outer_ev (fx := fx) (F := F) x hx (y.ps.getD j default).t (hfm.2.2.2.2.1 _ (getD_mem hj)).2
    rw [hxd] at eo ep
    have lms : (y.ms.map D.bool).length = y.ms.length := List.length_map ..
    have lps : (y.ps.map Fld.D).length = y.ps.length := List.length_map ..
    have hpl := hfm.2.2.2.1
    have hpl' : y.ps.length ≤ 4398046511104 := hpl
    clear hfm
    have hmn : mn14 y = (decide (y.n = mainT) && decide (y.ps.length = 0) && decide (y.r = unitT)) := rfl
    revert pi ht en eb ef eo ep lms lps hpl hpl' hmn
    obtain ⟨n, ps, ms, r, dd⟩ := y
    dsimp only
    intro pi ht en eb ef eo ep lms lps hpl hpl' hmn
    cases c1 : nameB n with
    | false =>
      rw [c1] at en
      repeat' (first | refine run ⟨?_⟩ | refine pickD pi ?_ | refine ca (en _) ?_ | fail)
      exact rfl
    | true =>
    rw [c1] at en
    cases c2 : biB n with
    | true =>
      rw [c2] at eb
      repeat' (first | refine run ⟨?_⟩ | refine pickD pi ?_ | refine ca (en _) ?_ | refine ca (eb _) ?_ | fail)
      exact rfl
    | false =>
    rw [c2] at eb
    cases c3 : fld14 ps 6 with
    | false =>
      rw [c3] at ef
      repeat' (first | refine run ⟨?_⟩ | refine pickD pi ?_ | refine ca (en _) ?_ | refine ca (eb _) ?_ | refine ca (ef _) ?_ | fail)
      exact rfl
    | true =>
    rw [c3] at ef
    by_cases c4 : ms.length = ps.length
    rotate_left
    · rw [decide_eq_false c4]
      have c4' : (!decide (((ms.map D.bool).length : Int) = ((ps.map Fld.D).length : Int))) = true := by rw [lms, lps]; simp; omega
      repeat' (first | refine run ⟨?_⟩ | refine pickD pi ?_ | refine ca (en _) ?_ | refine ca (eb _) ?_ | refine ca (ef _) ?_ | fail)
      exact rfl
    rw [decide_eq_true c4]
    have c4' : (!decide (((ms.map D.bool).length : Int) = ((ps.map Fld.D).length : Int))) = false := by rw [lms, lps, c4]; simp
    cases c5 : isB (kn x) r with
    | false =>
      rw [c5] at eo
      repeat' (first | refine run ⟨?_⟩ | refine pickD pi ?_ | refine ca (en _) ?_ | refine ca (eb _) ?_ | refine ca (ef _) ?_ | refine ca (eo _) ?_ | fail)
      exact rfl
    | true =>
    rw [c5] at eo
    by_cases c6 : dd < 0
    · rw [decide_eq_true c6]
      repeat' (first | refine run ⟨?_⟩ | refine pickD pi ?_ | refine ca (en _) ?_ | refine ca (eb _) ?_ | refine ca (ef _) ?_ | refine ca (eo _) ?_ | fail)
      exact rfl
    rw [decide_eq_false c6]
    repeat' (first | refine run ⟨?_⟩ | refine pickD pi ?_ | refine ca (en _) ?_ | refine ca (eb _) ?_ | refine ca (ef _) ?_ | refine ca (eo _) ?_ | fail)
    refine wq_loop (α := Nat) (fun a => i - a) (fun a => [(1, .ptr 0 0), (3, boo m), (4, i64 i), (5, .ptr 1 0), (6, i64 a)]) (fun _ => [.box [.d (.sl (x.ss.map Nam.D)), .d (.sl (x.es.map Nam.D)), .d (.sl (l.map Fnc.D))], .box [str n, .d (fldsD ps), .d (.sl (ms.map .bool)), str r, i64 dd]]) (fun k => k ≤ i ∧ ¬ (n ∈ (l.take k).map Fnc.n ∨ dd ∈ (l.take k).map Fnc.d)) ?_ 0 ⟨Nat.zero_le _, by simp⟩ rfl rfl
    rintro k ⟨hk, hs⟩
    by_cases g : k < i
    · have g' : (k : Int) < (i : Int) := by omega
      have hkl : k < l.length := by omega
      have pk := gF hkl
      have ht2 := takeFF hkl
      have hm1 : l.getD k default ∈ l.take i := by
        rw [List.mem_take_iff_getElem]
        exact ⟨k, by omega, by rw [List.getD_eq_getElem?_getD, List.getElem?_eq_getElem hkl]; rfl⟩
      revert pk ht2 hm1
      generalize l.getD k default = z
      obtain ⟨zn, zps, zms, zr, zd⟩ := z
      intro pk ht2 hm1
      have q1 : zn ∈ (l.take i).map Fnc.n := List.mem_map.2 ⟨_, hm1, rfl⟩
      have q2 : zd ∈ (l.take i).map Fnc.d := List.mem_map.2 ⟨_, hm1, rfl⟩
      by_cases c7 : zn = n
      · rw [decide_eq_true (.inl (c7 ▸ q1))]
        repeat' (first | refine run ⟨?_⟩ | refine pickD pk ?_ | fail)
        exact rfl
      by_cases c8 : zd = dd
      · rw [decide_eq_true (.inr (c8 ▸ q2))]
        repeat' (first | refine run ⟨?_⟩ | refine pickD pk ?_ | fail)
        exact rfl
      have hs2 : ¬ (n ∈ (l.take (k + 1)).map Fnc.n ∨ dd ∈ (l.take (k + 1)).map Fnc.d) := by
        rw [ht2, List.map_append, List.map_append, List.mem_append, List.mem_append]
        rintro ((a | a) | (a | a))
        · exact hs (.inl a)
        · simp at a; exact c7 a.symm
        · exact hs (.inr a)
        · simp at a; exact c8 a.symm
      repeat' (first | refine run ⟨?_⟩ | refine pickD pk ?_ | fail)
      exact ⟨k + 1, ⟨by omega, hs2⟩, by omega, by rw [i64w (by omega)] <;> rfl, rfl⟩
    · have g' : ¬ (k : Int) < (i : Int) := by omega
      obtain rfl : k = i := by omega
      rw [decide_eq_false hs]
      refine run ⟨?_⟩
      refine wq_loop (α := Nat) (fun a => ps.length - a) (fun a => [(1, .ptr 0 0), (3, boo m), (4, i64 k), (5, .ptr 1 0), (7, i64 a)]) (fun _ => [.box [.d (.sl (x.ss.map Nam.D)), .d (.sl (x.es.map Nam.D)), .d (.sl (l.map Fnc.D))], .box [str n, .d (fldsD ps), .d (.sl (ms.map .bool)), str r, i64 dd]]) (fun j => j ≤ ps.length ∧ ∀ p ∈ ps.take j, isB (kn x) p.t = true) ?_ 0 ⟨Nat.zero_le _, by simp⟩ rfl rfl
      rintro j ⟨hj, hq⟩
      by_cases u : j < ps.length
      · have u' : (j : Int) < ((ps.map Fld.D).length : Int) := by rw [lps]; omega
        have pj := gFl u
        have e1 := ep j u
        have ht3 := take_succ_getD (d := default) u
        have hmem := getD_mem u
        revert pj e1 ht3 hmem
        generalize ps.getD j default = p
        obtain ⟨pn, pt⟩ := p
        intro pj e1 ht3 hmem
        dsimp only at e1
        cases c9 : isB (kn x) pt with
        | false =>
          rw [c9] at e1
          have hv : (ps.all fun p => isB (kn x) p.t) = false := by
            rw [List.all_eq_false]; exact ⟨_, hmem, by rw [c9]; decide⟩
          rw [hv]
          repeat' (first | refine run ⟨?_⟩ | refine pickD pj ?_ | refine ca (e1 _) ?_ | fail)
          exact rfl
        | true =>
          rw [c9] at e1
          have hq2 : ∀ p ∈ ps.take (j + 1), isB (kn x) p.t = true := fun p hp => by
            rw [ht3, List.mem_append, List.mem_singleton] at hp
            rcases hp with a | a
            · exact hq p a
            · rw [a]; exact c9
          repeat' (first | refine run ⟨?_⟩ | refine pickD pj ?_ | refine ca (e1 _) ?_ | fail)
          exact ⟨j + 1, ⟨by omega, hq2⟩, by omega, by rw [i64w (by omega)] <;> rfl, rfl⟩
      · have u' : ¬ (j : Int) < ((ps.map Fld.D).length : Int) := by rw [lps]; omega
        obtain rfl : j = ps.length := by omega
        rw [List.take_length] at hq
        have hv : (ps.all fun p => isB (kn x) p.t) = true := List.all_eq_true.2 hq
        rw [hv]
        have hm2 : (l.take (k + 1)).any mn14 = (m || mn14 ⟨n, ps, ms, r, dd⟩) := by
          rw [ht, List.any_append, ← hm]; simp
        rw [hmn] at hm2
        have fin : ∀ m', m' = (m || (decide (n = mainT) && decide (ps.length = 0) && decide (r = unitT))) → ∃ a' : Nat × Bool, (a'.1 ≤ l.length ∧ a'.2 = (l.take a'.1).any mn14 ∧ fns14 (kn x) (l.take k ++ [⟨n, ps, ms, r, dd⟩]) (l.drop (k + 1)) = fns14 (kn x) (l.take a'.1) (l.drop a'.1)) ∧ l.length - a'.1 < l.length - k ∧ a' = (k + 1, m') := fun m' hm' => ⟨(k + 1, m'), ⟨by show k + 1 ≤ _; omega, by rw [hm', ← hm2], by rw [← ht]⟩, by show _ - (k + 1) < _; omega, rfl⟩
        cases m with
        | true =>
          obtain ⟨a', f1, f2, rfl⟩ := fin true rfl
          refine run ⟨?_⟩
          exact ⟨_, f1, f2, by dsimp only; rw [i64w (by omega)] <;> rfl, rfl⟩
        | false =>
        by_cases d1 : n = mainT
        rotate_left
        · have d1' : ¬ n = [109, 97, 105, 110] := d1
          obtain ⟨a', f1, f2, rfl⟩ := fin false (by rw [decide_eq_false d1]; rfl)
          refine run ⟨?_⟩
          exact ⟨_, f1, f2, by dsimp only; rw [i64w (by omega)] <;> rfl, rfl⟩
        have d1' : n = [109, 97, 105, 110] := d1
        by_cases d2 : ps.length = 0
        rotate_left
        · have d2' : ¬ (((ps.map Fld.D).length : Nat) : Int) = 0 := by rw [lps]; omega
          obtain ⟨a', f1, f2, rfl⟩ := fin false (by rw [decide_eq_false d2, Bool.and_false]; rfl)
          refine run ⟨?_⟩
          exact ⟨_, f1, f2, by dsimp only; rw [i64w (by omega)] <;> rfl, rfl⟩
        have d2' : (((ps.map Fld.D).length : Nat) : Int) = 0 := by rw [lps]; omega
        obtain ⟨a', f1, f2, rfl⟩ := fin (decide (r = unitT)) (by rw [decide_eq_true d1, decide_eq_true d2]; rfl)
        refine run ⟨?_⟩
        exact ⟨_, f1, f2, by dsimp only; rw [i64w (by omega)] <;> rfl, rfl⟩
  · have h' : ¬ (i : Int) < ((l.map Fnc.D).length : Int) := by rw [hlm]; omega
    obtain rfl : i = l.length := by omega
    rw [List.take_length] at hm
    rw [List.drop_length, show fns14 (kn x) (l.take l.length) [] = true from rfl, Bool.true_and, ← hm]
    have hv : decide ((((l.map Fnc.D).length : Nat) : Int) ≤ 64) = decide (l.length ≤ 64) := by
      rw [hlm, Bool.eq_iff_iff, decide_eq_true_eq, decide_eq_true_eq]; omega
    rw [← hv]
    cases m with
    | true =>
      refine run ⟨?_⟩
      exact rfl
    | false =>
      refine run ⟨?_⟩
      exact rfl
end
end Go.Vm.Typ
namespace Go.Vm.Typ
open Go Go.Vm Go.Proofs Go.Vm.Ip
open Go.Vm.Lex (nameB)
set_option maxRecDepth 10000
section
variable {fx : Nat → Option Obj} {F : Nat → Option VFun}
set_option maxHeartbeats 1000000 in
theorem all14_ev (x : Its) (h1 : x.ss.length ≤ 64) (h2 : x.es.length ≤ 64) (H : Hp) : evF (pgL fx F) n_ref14_all [.d x.D] H = some (.d (.sl ((nS x ++ nE x).map D.str)), H) := by
  have m1 : (x.ss.map Nam.D).length = x.ss.length := List.length_map ..
  have m2 : (x.es.map Nam.D).length = x.es.length := List.length_map ..
  refine evF_wq (t_ref14_all (F := F)) rfl rfl ?_ H
  refine run ⟨?_⟩
  refine wq_loop (α := Nat) (fun a => x.ss.length - a) (fun a => [(1, .ptr 0 0), (3, .row 1 a), (4, i64 a)]) (fun a => [IB x, .row 1 (((nS x).take a).map D.str)]) (fun a => a ≤ x.ss.length) ?_ 0 (Nat.zero_le _) rfl rfl
  rintro j hj
  by_cases h : j < x.ss.length
  · have h' : (j : Int) < ((x.ss.map Nam.D).length : Int) := by rw [m1]; omega
    have pj := gN h
    have hn : (nS x).take (j + 1) = (nS x).take j ++ [(x.ss.getD j default).n] := by
      unfold nS
      rw [List.take_add_one, List.getElem?_map, List.getElem?_eq_getElem h, List.getD_eq_getElem?_getD, List.getElem?_eq_getElem h]; rfl
    have hln : (((nS x).take j).map D.str).length = j := by unfold nS; rw [List.length_map, List.length_take, List.length_map]; omega
    revert pj hn
    generalize x.ss.getD j default = y
    obtain ⟨n, fs⟩ := y
    intro pj hn
    dsimp only at hn
    repeat' (first | refine run ⟨?_⟩ | refine pickD pj ?_ | fail)
    refine And.intro ⟨rfl, by decide⟩ ?_
    refine And.intro ⟨rfl, hln, by show roomy (j + 1) 16; unfold roomy; omega⟩ ?_
    refine run ⟨?_⟩
    exact ⟨j + 1, by omega, by omega, by rw [i64w (by omega)] <;> rfl, by rw [hn, List.map_append] <;> rfl⟩
  · have h' : ¬ (j : Int) < ((x.ss.map Nam.D).length : Int) := by rw [m1]; omega
    obtain rfl : j = x.ss.length := by omega
    have hln : (((nS x).take x.ss.length).map D.str).length = x.ss.length := by unfold nS; rw [List.length_map, List.length_take, List.length_map]; omega
    have hta : (nS x).take x.ss.length = nS x := List.take_of_length_le (by unfold nS; rw [List.length_map]; exact Nat.le_refl _)
    have hlS : (nS x).length = x.ss.length := by unfold nS; rw [List.length_map]
    rw [hta]
    refine run ⟨?_⟩
    refine wq_loop (α := Nat) (fun a => x.es.length - a) (fun a => [(1, .ptr 0 0), (3, .row 1 (x.ss.length + a)), (5, i64 a)]) (fun a => [IB x, .row 1 ((nS x ++ (nE x).take a).map D.str)]) (fun a => a ≤ x.es.length) ?_ 0 (Nat.zero_le _) rfl (by rw [List.take_zero, List.append_nil] <;> rfl)
    rintro j hj
    by_cases h : j < x.es.length
    · have h' : (j : Int) < ((x.es.map Nam.D).length : Int) := by rw [m2]; omega
      have pj := gN h
      have hn : (nE x).take (j + 1) = (nE x).take j ++ [(x.es.getD j default).n] := by
        unfold nE
        rw [List.take_add_one, List.getElem?_map, List.getElem?_eq_getElem h, List.getD_eq_getElem?_getD, List.getElem?_eq_getElem h]; rfl
      have hln : ((nS x ++ (nE x).take j).map D.str).length = x.ss.length + j := by unfold nE; rw [List.length_map, List.length_append, hlS, List.length_take, List.length_map]; omega
      revert pj hn
      generalize x.es.getD j default = y
      obtain ⟨n, fs⟩ := y
      intro pj hn
      dsimp only at hn
      repeat' (first | refine run ⟨?_⟩ | refine pickD pj ?_ | fail)
      refine And.intro ⟨rfl, by decide⟩ ?_
      refine And.intro ⟨rfl, hln, by show roomy (x.ss.length + j + 1) 16; unfold roomy; omega⟩ ?_
      refine run ⟨?_⟩
      exact ⟨j + 1, by omega, by omega, by rw [i64w (by omega)] <;> rfl, by rw [hn, ← List.append_assoc, List.map_append (l₁ := nS x ++ (nE x).take j)] <;> rfl⟩
    · have h' : ¬ (j : Int) < ((x.es.map Nam.D).length : Int) := by rw [m2]; omega
      obtain rfl : j = x.es.length := by omega
      have hta2 : (nE x).take x.es.length = nE x := List.take_of_length_le (by unfold nE; rw [List.length_map]; exact Nat.le_refl _)
      have hln : ((nS x ++ nE x).map D.str).length = x.ss.length + x.es.length := by rw [List.length_map, List.length_append, hlS]; unfold nE; rw [List.length_map]
      rw [hta2]
      refine run ⟨?_⟩
      refine And.intro hln ?_
      exact rfl
end
end Go.Vm.Typ
