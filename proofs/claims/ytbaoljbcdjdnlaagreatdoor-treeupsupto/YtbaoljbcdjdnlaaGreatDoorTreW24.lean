import Derived.Test.YtbaoljbcdjdnlaaGreatDoorTreW23
/- The document's right trees: nodes. -/
namespace Go.Vm.Tre
open Go.Vm.Tp
set_option maxRecDepth 10000
theorem forms_ok {k : Int} {s : List UInt8} (h : s ∈ formsR k) : (∀ a, s ≠ a ++ [42]) ∧ s.length ≤ 1048576 := by
  have key : ∀ l : List (List UInt8), (l.all fun s => decide (s.getLast? ≠ some 42) && decide (s.length ≤ 1048576)) = true → s ∈ l → (∀ a, s ≠ a ++ [42]) ∧ s.length ≤ 1048576 := by
    intro l hl hm
    have := List.all_eq_true.1 hl s hm
    simp only [Bool.and_eq_true, decide_eq_true_eq] at this
    refine ⟨fun a e => this.1 ?_, this.2⟩
    rw [e]; simp
  refine key _ ?_ h
  clear h key
  unfold formsR
  repeat' refine ite_ind (P := fun l : List (List UInt8) => (l.all fun s => decide (s.getLast? ≠ some 42) && decide (s.length ≤ 1048576)) = true) ?_ ?_
  all_goals decide
theorem forms_20 {k : Int} (h : [98, 108, 111, 99, 107] ∈ formsR k) : k = 20 := by
  refine Decidable.byContradiction fun hk => ?_
  revert h
  have key : ∀ l : List (List UInt8), (l.all fun s => decide (s ≠ [98, 108, 111, 99, 107])) = true → ¬ [98, 108, 111, 99, 107] ∈ l := by
    intro l hl hm
    have := List.all_eq_true.1 hl _ hm
    simp at this
  refine key _ ?_
  clear key
  unfold formsR
  simp only [hk, if_false]
  repeat' refine ite_ind (P := fun l : List (List UInt8) => (l.all fun s => decide (s ≠ [98, 108, 111, 99, 107])) = true) ?_ ?_
  all_goals decide
theorem forms_len (k : Int) : (formsR k).length ≤ 2 := by
  unfold formsR
  repeat' refine ite_ind (P := fun l : List (List UInt8) => l.length ≤ 2) ?_ ?_
  all_goals decide
section
variable {fx : Nat → Option Obj} (H : Hp)
theorem rfits_ev (t : List Nd) (x : Nd) (hkl : x.kids.length ≤ 1048576) (hk : ∀ k ∈ x.kids, 0 ≤ k ∧ k < t.length) (hc : countR x.k x.v = true) (s : List UInt8) (hs : s ∈ formsR x.k) : evF (pgL fx) n_ref13_fits [.d (treeD t), ndV x, str s] H = some (boo (fitsR x.v (kinds t x.kids) s), H) := by
  unfold fitsR
  by_cases c1 : s = [102, 110]
  · subst c1; rw [if_pos rfl]; exact rfits_fn H t x hkl hk
  rw [if_neg c1]
  by_cases c2 : s = [98, 108, 111, 99, 107]
  · subst c2; rw [if_pos rfl]
    have h20 := forms_20 hs
    rw [h20] at hc
    have : (decide (x.v = 0) || decide (x.v = 1)) = true := hc
    exact rfits_block H t x hkl hk (by simpa using this)
  rw [if_neg c2]
  obtain ⟨h1, h2⟩ := forms_ok hs
  exact rfits_go H t x hkl hk s c1 c2 h1 h2
set_option maxHeartbeats 2000000 in
theorem rnode_ev (t : List Nd) (hf : Fine t) (i : Nat) (hi : i < t.length) : evF (pgL fx) n_ref13_node [.d (treeD t), i64 i] H = some (boo (nodeR t i), H) := by
  refine evF_wq t_ref13_node rfl rfl ?_ H
  have htl := hf.len
  have hg := ndD_at (t := t) (k := (i : Int)) (by omega) (by omega)
  have hmem := nd_mem hi
  have hkl := hf.kid _ hmem
  have htx := hf.txt _ hmem
  show enterK 0 _ fun e => WQ _ _ _ _ _ _ (retK _ _ fun v _ => v = boo (knownB (nd t i).k && (nmB (nd t i).k (nd t i).t && (countR (nd t i).k (nd t i).v && (decide (0 ≤ (nd t i).f) && (decide ((nd t i).f ≤ (nd t i).e) && ((nd t i).kids.all (kidOk i) && (formsR (nd t i).k).any (fitsR (nd t i).v (kinds t (nd t i).kids)))))))))
  change 0 ≤ (i : Int) ∧ (t.map Nd.D)[(i : Int).toNat]? = some (nd t i).D at hg
  obtain ⟨x, hx⟩ : ∃ x, x = nd t i := ⟨_, rfl⟩
  rw [← hx] at hg hkl htx ⊢
  clear hx hmem
  have e1 := fun H => rknown_ev (fx := fx) H x.k
  have e2 := fun H => rnamed_ev (fx := fx) H x htx
  have e3 := fun H => rcounted_ev (fx := fx) H x
  cases c1 : knownB x.k with
  | false =>
    rw [c1] at e1
    repeat' (first | refine run ⟨?_⟩ | refine pickD hg ?_ | refine ca (e1 _) ?_ | fail)
    exact rfl
  | true =>
  rw [c1] at e1
  cases c2 : nmB x.k x.t with
  | false =>
    rw [c2] at e2
    repeat' (first | refine run ⟨?_⟩ | refine pickD hg ?_ | refine ca (e1 _) ?_ | refine ca (e2 _) ?_ | fail)
    exact rfl
  | true =>
  rw [c2] at e2
  cases c3 : countR x.k x.v with
  | false =>
    rw [c3] at e3
    repeat' (first | refine run ⟨?_⟩ | refine pickD hg ?_ | refine ca (e1 _) ?_ | refine ca (e2 _) ?_ | refine ca (e3 _) ?_ | fail)
    exact rfl
  | true =>
  rw [c3] at e3
  by_cases c4 : x.f < 0
  · repeat' (first | refine run ⟨?_⟩ | refine pickD hg ?_ | refine ca (e1 _) ?_ | refine ca (e2 _) ?_ | refine ca (e3 _) ?_ | fail)
    rw [decide_eq_false (by omega : ¬ 0 ≤ x.f)]; exact rfl
  by_cases c5 : x.e < x.f
  · repeat' (first | refine run ⟨?_⟩ | refine pickD hg ?_ | refine ca (e1 _) ?_ | refine ca (e2 _) ?_ | refine ca (e3 _) ?_ | fail)
    rw [decide_eq_true (by omega : 0 ≤ x.f), decide_eq_false (by omega : ¬ x.f ≤ x.e)]; exact rfl
  repeat' (first | refine run ⟨?_⟩ | refine pickD hg ?_ | refine ca (e1 _) ?_ | refine ca (e2 _) ?_ | refine ca (e3 _) ?_ | fail)
  rw [decide_eq_true (by omega : 0 ≤ x.f), decide_eq_true (by omega : x.f ≤ x.e)]
  simp only [Bool.true_and]
  refine wq_loop (α := Nat) (fun j => x.kids.length - j) (fun j => [(1, i64 i), (2, .ptr 0 0), (5, .ptr 1 0), (42, ints x.kids), (43, i64 x.kids.length), (44, i64 j)]) (fun _ => [TB t, XB x]) (fun j => j ≤ x.kids.length ∧ ∀ k ∈ x.kids.take j, kidOk i k = true) ?_ 0 ⟨Nat.zero_le _, by simp⟩ ?_ rfl
  · rintro j ⟨hj, hall⟩
    by_cases h : j < x.kids.length
    · have h' : (j : Int) < (x.kids.length : Int) := by omega
      have pj : 0 ≤ (j : Int) ∧ (x.kids.map (D.int .i64))[(j : Int).toNat]? = some (.int .i64 (x.kids.getD j 0)) := ⟨by omega, gK h⟩
      have ej : x.kids.getD j 0 = x.kids[j] := by simp [h]
      have bad : kidOk i (x.kids.getD j 0) = false → x.kids.all (kidOk i) = false := fun hb => not_all fun hc => by
        have := List.all_eq_true.1 hc _ (List.getElem_mem h); rw [← ej, hb] at this; cases this
      by_cases k0 : x.kids.getD j 0 < 0
      · repeat' (first | refine run ⟨?_⟩ | refine pickD pj ?_ | fail)
        rw [bad (by unfold kidOk; rw [decide_eq_false (by omega)]; rfl)]; exact rfl
      by_cases k1 : (i : Int) ≤ x.kids.getD j 0
      · repeat' (first | refine run ⟨?_⟩ | refine pickD pj ?_ | fail)
        rw [bad (by unfold kidOk; rw [decide_eq_false (by omega : ¬ x.kids.getD j 0 < (i : Int)), Bool.and_false])]; exact rfl
      repeat' (first | refine run ⟨?_⟩ | refine pickD pj ?_ | fail)
      refine ⟨j + 1, ⟨by omega, fun k hk => ?_⟩, by omega, by rw [i64w (by omega)]; rfl, rfl⟩
      rw [List.take_add_one, List.getElem?_eq_getElem h, List.mem_append] at hk
      rcases hk with hk | hk
      · exact hall k hk
      · have : k = x.kids.getD j 0 := by rw [ej]; simpa using hk
        rw [this]; unfold kidOk; rw [decide_eq_true (by omega), decide_eq_true (by omega)]; rfl
    · have h' : ¬ (j : Int) < (x.kids.length : Int) := by omega
      rw [List.take_of_length_le (by omega)] at hall
      rw [List.all_eq_true.2 hall, Bool.true_and]
      have hk : ∀ k ∈ x.kids, 0 ≤ k ∧ k < t.length := fun k hk => by
        have := hall k hk
        simp only [kidOk, Bool.and_eq_true, decide_eq_true_eq] at this
        omega
      have ef := fun s hs H => rfits_ev (fx := fx) H t x hkl hk c3 s hs
      have ei := fun H => rforms_ev (fx := fx) H x
      have hfl := forms_len x.k
      have hml : ((formsR x.k).map D.str).length = (formsR x.k).length := List.length_map ..
      obtain ⟨l, hle⟩ : ∃ l, l = formsR x.k := ⟨_, rfl⟩
      rw [← hle] at ef ei hfl hml ⊢
      clear hle e1 e2 e3
      repeat' (first | refine run ⟨?_⟩ | refine ca (ei _) ?_ | fail)
      refine wq_loop (α := Nat) (fun a => l.length - a) (fun a => [(2, .ptr 0 0), (5, .ptr 1 0), (57, .d (.sl (l.map .str))), (58, i64 l.length), (59, i64 a)]) (fun _ => [TB t, XB x]) (fun a => a ≤ l.length ∧ ∀ s ∈ l.take a, fitsR x.v (kinds t x.kids) s = false) ?_ 0 ⟨Nat.zero_le _, by simp⟩ ?_ rfl
      · rintro a ⟨ha, hno⟩
        by_cases h2 : a < l.length
        · have h2' : (a : Int) < (l.length : Int) := by omega
          have pa : 0 ≤ (a : Int) ∧ (l.map D.str)[(a : Int).toNat]? = some (.str (l.getD a [])) := ⟨by omega, by rw [List.getElem?_map, Int.toNat_natCast, get_getD h2 []]; rfl⟩
          have ea : l.getD a [] = l[a] := by simp [h2]
          have hfa := ef (l.getD a []) (by rw [ea]; exact List.getElem_mem _)
          cases hc : fitsR x.v (kinds t x.kids) (l.getD a []) with
          | true =>
            rw [hc] at hfa
            repeat' (first | refine run ⟨?_⟩ | refine pickD pa ?_ | refine ca (hfa _) ?_ | fail)
            rw [List.any_eq_true.2 ⟨l[a], List.getElem_mem _, by rw [← ea]; exact hc⟩]; exact rfl
          | false =>
            rw [hc] at hfa
            repeat' (first | refine run ⟨?_⟩ | refine pickD pa ?_ | refine ca (hfa _) ?_ | fail)
            refine ⟨a + 1, ⟨by omega, fun s hs => ?_⟩, by omega, by rw [i64w (by omega)]; rfl, rfl⟩
            rw [List.take_add_one, List.getElem?_eq_getElem h2, List.mem_append] at hs
            rcases hs with hs | hs
            · exact hno s hs
            · have : s = l.getD a [] := by rw [ea]; simpa using hs
              rw [this]; exact hc
        · have h2' : ¬ (a : Int) < (l.length : Int) := by omega
          rw [List.take_of_length_le (by omega)] at hno
          refine run ⟨?_⟩
          have : l.any (fitsR x.v (kinds t x.kids)) = false := List.any_eq_false.2 fun s hs => by rw [hno s hs]; simp
          rw [this]; exact rfl
      · show [_, _, _, (58, i64 ((l.map D.str).length : Int)), _] = _
        rw [hml]; rfl
  · show [_, _, _, _, (43, i64 ((x.kids.map (D.int .i64)).length : Int)), _] = _
    rw [List.length_map]; rfl
end
end Go.Vm.Tre
