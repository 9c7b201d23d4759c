import Derived.Test.YtbaoljbcdjdnlaaGreatDoorTreW3
set_option linter.unusedSimpArgs false
set_option linter.unusedVariables false
namespace Go.Vm.Tre
open Go.Vm.Tp
open Go.Vm.Lex (nameB)
set_option maxRecDepth 10000
section
variable {fx : Nat → Option Obj} (H : Hp)
theorem ib_ev (s : List UInt8) (c : UInt8) : evF (pgL fx) n_primIndexByte [str s, u8 c] H = some (i64 (Lib.indexByte s c), H) := by
  rw [evF_prim t_primIndexByte]
  show some (V.d (D.int .i64 (Lib.indexByte s ((c.toNat : Int)).toNat.toUInt8)), H) = _
  simp
theorem cut_ev (s : List UInt8) (hs : s.length ≤ 1048576) : evF (pgL fx) n_primCut [str s, str [58, 58]] H = some (.tup [str (cutT s).1, str (cutT s).2.1, boo (cutT s).2.2], H) := by
  rw [evF_prim t_primCut]
  exact if_pos (by omega)
theorem cutT_len (s : List UInt8) : (cutT s).1.length ≤ s.length ∧ (cutT s).2.1.length ≤ s.length := by
  unfold cutT Lib.cut
  split <;> simp <;> omega
theorem maxl {n : Nat} (h : n ≤ 1048576) : n ≤ maxLen := by unfold maxLen; omega
theorem tname_ev (x : Nd) (hx : x.t.length ≤ 1048576) : evF (pgL fx) n_tree_name [ndV x] H = some (boo (nmB x.k x.t), H) := by
  obtain ⟨k, t, v, kids, f, e⟩ := x
  simp only at hx ⊢
  refine evF_wp t_tree_name rfl rfl ?_ H
  by_cases hA : k = 2 ∨ k = 3 ∨ k = 4 ∨ k = 5 ∨ k = 6 ∨ k = 7 ∨ k = 13 ∨ k = 21 ∨ k = 33 ∨ k = 34 ∨ k = 35 ∨ k = 36 ∨ k = 41 ∨ k = 51
  · have e0 : nmB k t = nameB t := by unfold nmB; rw [if_pos hA]
    rw [e0]
    rcases hA with rfl | rfl | rfl | rfl | rfl | rfl | rfl | rfl | rfl | rfl | rfl | rfl | rfl | rfl
    all_goals
      repeat' (first | refine run ⟨?_⟩ | refine ca (name_ev _ _ (maxl hx)) ?_ | fail)
      exact rfl
  have e1 : nmB k t = if k = 37 ∨ k = 54 then (cutT t).2.2 && nameB (cutT t).1 && nameB (cutT t).2.1 else if k = 38 then decide (t ∈ signsL) else decide (t = []) := by unfold nmB; exact if_neg hA
  rw [e1]
  clear e1
  simp only [not_or] at hA
  obtain ⟨a2, a3, a4, a5, a6, a7, a13, a21, a33, a34, a35, a36, a41, a51⟩ := hA
  try refine and_f (decide_eq_false a2) ?_
  repeat' (first | refine run ⟨?_⟩ | fail)
  try refine and_f (decide_eq_false a3) ?_
  repeat' (first | refine run ⟨?_⟩ | fail)
  try refine and_f (decide_eq_false a4) ?_
  repeat' (first | refine run ⟨?_⟩ | fail)
  try refine and_f (decide_eq_false a5) ?_
  repeat' (first | refine run ⟨?_⟩ | fail)
  try refine and_f (decide_eq_false a6) ?_
  repeat' (first | refine run ⟨?_⟩ | fail)
  try refine and_f (decide_eq_false a7) ?_
  repeat' (first | refine run ⟨?_⟩ | fail)
  try refine and_f (decide_eq_false a13) ?_
  repeat' (first | refine run ⟨?_⟩ | fail)
  try refine and_f (decide_eq_false a21) ?_
  repeat' (first | refine run ⟨?_⟩ | fail)
  try refine and_f (decide_eq_false a33) ?_
  repeat' (first | refine run ⟨?_⟩ | fail)
  try refine and_f (decide_eq_false a34) ?_
  repeat' (first | refine run ⟨?_⟩ | fail)
  try refine and_f (decide_eq_false a35) ?_
  repeat' (first | refine run ⟨?_⟩ | fail)
  try refine and_f (decide_eq_false a36) ?_
  repeat' (first | refine run ⟨?_⟩ | fail)
  try refine and_f (decide_eq_false a41) ?_
  repeat' (first | refine run ⟨?_⟩ | fail)
  try refine and_f (decide_eq_false a51) ?_
  repeat' (first | refine run ⟨?_⟩ | fail)
  have hc := cutT_len t
  by_cases hB : k = 37 ∨ k = 54
  · rw [if_pos hB]
    have st : k = 37 ∨ k = 54 → True := fun _ => trivial
    rcases hB with rfl | rfl
    all_goals
      repeat' (first | refine run ⟨?_⟩ | refine ca (cut_ev _ _ hx) ?_ | fail)
      cases h1 : (cutT t).2.2 with
      | false =>
        repeat' (first | refine run ⟨?_⟩ | fail)
        exact rfl
      | true =>
        repeat' (first | refine run ⟨?_⟩ | refine ca (name_ev _ _ (maxl (Nat.le_trans hc.1 hx))) ?_ | fail)
        cases h2 : nameB (cutT t).1 with
        | false =>
          repeat' (first | refine run ⟨?_⟩ | fail)
          exact rfl
        | true =>
          repeat' (first | refine run ⟨?_⟩ | refine ca (name_ev _ _ (maxl (Nat.le_trans hc.2 hx))) ?_ | fail)
          exact rfl
  rw [if_neg hB]
  simp only [not_or] at hB
  try refine and_f (decide_eq_false hB.1) ?_
  repeat' (first | refine run ⟨?_⟩ | fail)
  try refine and_f (decide_eq_false hB.2) ?_
  repeat' (first | refine run ⟨?_⟩ | fail)
  by_cases hC : k = 38
  · subst hC
    repeat' (first | refine run ⟨?_⟩ | refine ca (sign_ev _ _) ?_ | fail)
    exact rfl
  rw [if_neg hC]
  try refine and_f (decide_eq_false hC) ?_
  repeat' (first | refine run ⟨?_⟩ | fail)
  exact rfl
theorem num_ev (x : Nd) (p : Int) : evF (pgL fx) n_tree_num [ndV x, i64 p] H = some (boo (numB x.k x.v p), H) := by
  obtain ⟨k, t, v, kids, f, e⟩ := x
  simp only
  refine evF_wp t_tree_num rfl rfl ?_ H
  by_cases h2 : k = 2
  · subst h2
    repeat' (first | refine run ⟨?_⟩ | fail)
    exact rfl
  try refine and_f (decide_eq_false h2) ?_
  repeat' (first | refine run ⟨?_⟩ | fail)
  by_cases hA : k = 7 ∨ k = 20 ∨ k = 21 ∨ k = 31 ∨ k = 53 ∨ k = 43
  · have e0 : numB k v p = (decide (v = 0) || decide (v = 1)) := by unfold numB; rw [if_neg h2, if_pos hA]
    rw [e0]
    rcases hA with rfl | rfl | rfl | rfl | rfl | rfl
    all_goals
      by_cases h0 : v = 0
      · subst h0
        repeat' (first | refine run ⟨?_⟩ | fail)
        exact rfl
      · repeat' (first | refine run ⟨?_⟩ | fail)
        try refine gd_f (decide_eq_false h0) ?_
        repeat' (first | refine run ⟨?_⟩ | fail)
        show _ = _
        rw [decide_eq_false h0]; rfl
  have e1 : numB k v p = (if k = 30 then decide (0 ≤ v) else if k = 52 then decide (-9223372036854775808 < v) else decide (v = 0)) := by unfold numB; rw [if_neg h2, if_neg hA]
  rw [e1]
  simp only [not_or] at hA
  obtain ⟨a1, a2, a3, a4, a5, a6⟩ := hA
  try refine and_f (decide_eq_false a1) ?_
  repeat' (first | refine run ⟨?_⟩ | fail)
  try refine and_f (decide_eq_false a2) ?_
  repeat' (first | refine run ⟨?_⟩ | fail)
  try refine and_f (decide_eq_false a3) ?_
  repeat' (first | refine run ⟨?_⟩ | fail)
  try refine and_f (decide_eq_false a4) ?_
  repeat' (first | refine run ⟨?_⟩ | fail)
  try refine and_f (decide_eq_false a5) ?_
  repeat' (first | refine run ⟨?_⟩ | fail)
  try refine and_f (decide_eq_false a6) ?_
  repeat' (first | refine run ⟨?_⟩ | fail)
  by_cases h30 : k = 30
  · subst h30
    repeat' (first | refine run ⟨?_⟩ | fail)
    exact rfl
  rw [if_neg h30]
  try refine and_f (decide_eq_false h30) ?_
  repeat' (first | refine run ⟨?_⟩ | fail)
  by_cases h52 : k = 52
  · subst h52
    repeat' (first | refine run ⟨?_⟩ | fail)
    exact rfl
  rw [if_neg h52]
  try refine and_f (decide_eq_false h52) ?_
  repeat' (first | refine run ⟨?_⟩ | fail)
  exact rfl
end
end Go.Vm.Tre
namespace Go.Vm.Tre
open Go.Vm.Tp
set_option maxRecDepth 10000
def okS (s : List UInt8) : Bool := s.all (fun c => !decide (c = 42)) && !decide (s.getLast? = some 63) && decide (s.length ≤ 4)
theorem ite_ind {α : Type} {P : α → Prop} {c : Prop} [Decidable c] {a b : α} (ha : P a) (hb : P b) : P (if c then a else b) := by split <;> assumption
def PShape (p : List UInt8 × Option UInt8 × List UInt8) : Prop := okS p.1 = true ∧ okS p.2.2 = true ∧ (p.2.1 = none → p.2.2 = [])
theorem shapeP_ok (k v : Int) : PShape (shapeP k v) := by
  unfold shapeP
  repeat' refine ite_ind ?_ ?_
  all_goals exact ⟨by decide, by decide, by decide⟩
theorem okS_last {s : List UInt8} (h : okS s = true) : ∀ a, s ≠ a ++ [63] := by
  rintro a rfl
  simp [okS] at h
theorem okS_len {s : List UInt8} (h : okS s = true) : s.length ≤ 4 := by simp [okS] at h; exact h.2
theorem okS_no {s : List UInt8} (h : okS s = true) : 42 ∉ s := by
  simp only [okS, Bool.and_eq_true] at h
  intro hm
  have := List.all_eq_true.1 h.1.1 42 hm
  simp at this
theorem ib_not {s : List UInt8} (h : 42 ∉ s) : Lib.indexByte s 42 = -1 := by
  induction s with
  | nil => rfl
  | cons a r ih =>
    simp only [List.mem_cons, not_or] at h
    unfold Lib.indexByte
    rw [ih h.2, if_neg (by simpa using fun e : a = 42 => h.1 e.symm)]; rfl
theorem ib_at (a r : List UInt8) (h : 42 ∉ a) : Lib.indexByte (a ++ 42 :: r) 42 = a.length := by
  induction a with
  | nil => simp [Lib.indexByte]
  | cons b a ih =>
    simp only [List.mem_cons, not_or] at h
    rw [List.cons_append]
    unfold Lib.indexByte
    rw [ih h.2, if_neg (by simpa using fun e : b = 42 => h.1 e.symm), if_neg (by simp)]
    simp
section
variable {fx : Nat → Option Obj} (H : Hp)
set_option maxHeartbeats 2000000 in
theorem fits_ev (x : Nd) (ks : List Int) (hk : ks.length ≤ 1048576) : evF (pgL fx) n_tree_fits [ndV x, ints ks] H = some (boo (fitsB x.k x.v ks), H) := by
  refine evF_wp t_tree_fits rfl rfl ?_ H
  have hsh := fun H => shape_ev (fx := fx) H x
  obtain ⟨o1, o2, o3⟩ := shapeP_ok x.k x.v
  unfold fitsB
  unfold shapeL at hsh
  generalize shapeP x.k x.v = p at *
  obtain ⟨a, m, b⟩ := p
  simp only at o1 o2 o3 ⊢
  refine ca (hsh _) ?_
  have hal := okS_len o1
  have hbl := okS_len o2
  cases m with
  | none =>
    have hb := o3 rfl
    refine ca (ib_ev _ _ 42) ?_
    simp only [shapeOf]
    rw [ib_not (okS_no o1)]
    repeat' (first | refine run ⟨?_⟩ | fail)
    refine ca (kids_ev _ a ks (Nat.le_refl _) (okS_last o1) _) ?_
    exact rfl
  | some c =>
    simp only [shapeOf]
    refine ca (ib_ev _ _ 42) ?_
    rw [ib_at _ _ (okS_no o1)]
    refine and_f (decide_eq_false (by omega)) ?_
    have hsl : (a ++ 42 :: c :: b).length = a.length + b.length + 2 := by simp; omega
    have hr : IntKind.i64.wrap (IntKind.i64.wrap (((a ++ 42 :: c :: b).length : Int) - (a.length : Int)) - 2) = (b.length : Int) := by
      rw [hsl, i64w (n := ((a.length + b.length + 2 : Nat) : Int) - (a.length : Int)) (by omega), i64w (by omega)]; omega
    have hsum : IntKind.i64.wrap ((a.length : Int) + (b.length : Int)) = ((a.length + b.length : Nat) : Int) := by rw [i64w (by omega)]; omega
    by_cases hlt : ks.length < a.length + b.length
    · refine and_t (decide_eq_true (by rw [hr, hsum, List.length_map]; omega)) ?_
      show _ = _
      rw [decide_eq_false (by omega : ¬ a.length + b.length ≤ ks.length)]; rfl
    refine and_f (decide_eq_false (by rw [hr, hsum, List.length_map]; omega)) ?_
    rw [hr]
    have he : IntKind.i64.wrap (((ks.map (D.int .i64)).length : Int) - (b.length : Int)) = ((ks.length - b.length : Nat) : Int) := by rw [List.length_map, i64w (by omega)]; omega
    have e1 : (a ++ 42 :: c :: b).take a.length = a := by simp
    have e2 : (a ++ 42 :: c :: b).drop (a.length + 2) = b := by rw [List.drop_append]; simp
    rw [decide_eq_true (by omega : a.length + b.length ≤ ks.length), Bool.true_and]
    refine And.intro (by omega) ?_
    refine And.intro ⟨by omega, by simp⟩ ?_
    refine And.intro (by omega) ?_
    refine And.intro ⟨by omega, by simp; omega, rfl⟩ ?_
    rw [show List.drop 0 (List.take (Int.toNat (a.length : Int)) (a ++ 42 :: c :: b)) = a from by simp, show List.drop 0 (List.take (Int.toNat (a.length : Int)) (ks.map (D.int .i64))) = (ks.take a.length).map (D.int .i64) from by simp]
    refine ca (kids_ev _ a (ks.take a.length) (Nat.le_refl _) (okS_last o1) _) ?_
    repeat' (first | refine run ⟨?_⟩ | fail)
    cases hk1 : kidsB a (ks.take a.length) with
    | false =>
      repeat' (first | refine run ⟨?_⟩ | fail)
      show _ = _
      simp [oneOf]
    | true =>
      repeat' (first | refine run ⟨?_⟩ | fail)
      refine pickD (d := c) ⟨by rw [i64w (by omega)]; omega, by rw [i64w (by omega)]; rw [show (Int.toNat ((a.length : Int) + 1)) = a.length + 1 by omega]; rw [List.getElem?_append_right (by omega)]; simp⟩ ?_
      refine And.intro (by omega) ?_
      refine And.intro (by rw [he]; omega) ?_
      refine And.intro ⟨by rw [he]; omega, by rw [he, List.length_map]; omega, by rw [ints_one]; rfl⟩ ?_
      rw [he]
      rw [show List.drop (Int.toNat (a.length : Int)) (List.take (Int.toNat ((ks.length - b.length : Nat) : Int)) (ks.map (D.int .i64))) = ((ks.take (ks.length - b.length)).drop a.length).map (D.int .i64) from by simp]
      refine ca (all_ev _ ((ks.take (ks.length - b.length)).drop a.length) c (by simp; omega)) ?_
      repeat' (first | refine run ⟨?_⟩ | fail)
      cases hk2 : ((ks.take (ks.length - b.length)).drop a.length).all (lett c) with
      | false =>
        repeat' (first | refine run ⟨?_⟩ | fail)
        show _ = _
        simp [oneOf]
      | true =>
        repeat' (first | refine run ⟨?_⟩ | fail)
        refine And.intro (by rw [i64w (by omega)]; omega) ?_
        refine And.intro ⟨by rw [i64w (by omega), hsl]; omega, Nat.le_refl _⟩ ?_
        refine And.intro (by omega) ?_
        refine And.intro ⟨by simp, Nat.le_refl _, by rw [ints_one]; rfl⟩ ?_
        rw [i64w (n := (a.length : Int) + 2) (by omega)]
        rw [show List.drop (Int.toNat ((a.length : Int) + 2)) (List.take (a ++ 42 :: c :: b).length (a ++ 42 :: c :: b)) = b from by rw [List.take_length, show Int.toNat ((a.length : Int) + 2) = a.length + 2 by omega, e2]]
        rw [show List.drop (Int.toNat ((ks.length - b.length : Nat) : Int)) (List.take (ks.map (D.int .i64)).length (ks.map (D.int .i64))) = (ks.drop (ks.length - b.length)).map (D.int .i64) from by rw [List.take_length]; simp]
        refine ca (kids_ev _ b (ks.drop (ks.length - b.length)) (Nat.le_refl _) (okS_last o2) _) ?_
        repeat' (first | refine run ⟨?_⟩ | fail)
        show _ = _
        simp [oneOf]
end
end Go.Vm.Tre
namespace Go.Vm.Tre
open Go.Vm.Tp
set_option maxRecDepth 10000
abbrev nd (t : List Nd) (i : Nat) : Nd := t.getD i default
theorem nd_get {t : List Nd} {i : Nat} (h : i < t.length) : t[i]? = some (nd t i) := by
  rw [List.getElem?_eq_getElem h]; simp [nd, h]
theorem nd_mem {t : List Nd} {i : Nat} (h : i < t.length) : nd t i ∈ t := List.mem_of_getElem? (nd_get h)
theorem ndD_get {t : List Nd} {i : Nat} (h : i < t.length) : (t.map Nd.D)[i]? = some (nd t i).D := by rw [List.getElem?_map, nd_get h]; rfl
theorem ndD_at {t : List Nd} {k : Int} (h0 : 0 ≤ k) (h : k < t.length) : 0 ≤ k ∧ (t.map Nd.D)[k.toNat]? = some (nd t k.toNat).D := ⟨h0, ndD_get (by omega)⟩
def kidOk (i : Nat) (k : Int) : Bool := decide (0 ≤ k) && decide (k < i)
theorem nodeB_kids {t : List Nd} {i : Nat} (h : (nd t i).kids.all (kidOk i) = false) : nodeB t i = false := by
  show ((nd t i).kids.all (kidOk i) && _) = false
  rw [h]; rfl
theorem kinds_take {t : List Nd} {l : List Int} {j : Nat} (h : j < l.length) : kinds t (l.take (j + 1)) = kinds t (l.take j) ++ [kindAt t l[j]] := by
  unfold kinds
  rw [List.take_add_one, List.getElem?_eq_getElem h, List.map_append]; rfl
theorem params_snoc (ks : List Int) (k : Int) : params (ks ++ [k]) = params ks + (if k = 7 then 1 else 0) := by
  unfold params
  rw [List.filter_append, List.length_append]
  by_cases h : k = 7
  · simp [h]
  · simp [h]
theorem params_le (ks : List Int) : 0 ≤ params ks ∧ params ks ≤ ks.length := by
  unfold params
  have := List.length_filter_le (fun k => decide (k = 7)) ks
  omega
section
variable {fx : Nat → Option Obj} (H : Hp)
set_option maxHeartbeats 4000000 in
theorem tnode_ev (t : List Nd) (hf : Fine t) (i : Nat) (hi : i < t.length) : evF (pgL fx) n_tree_node [.d (treeD t), i64 i] H = some (boo (nodeB t i), H) := by
  refine evF_wp t_tree_node rfl rfl ?_ H
  have htl := hf.len
  obtain ⟨x, hxe⟩ : ∃ x, x = nd t i := ⟨_, rfl⟩
  have hnb : nodeB t i = (x.kids.all (kidOk i) && (knownB x.k && nmB x.k x.t && numB x.k x.v (params (kinds t x.kids)) && decide (0 ≤ x.f) && decide (x.f ≤ x.e) && fitsB x.k x.v (kinds t x.kids))) := by rw [hxe]; rfl
  have hx : x ∈ t := by rw [hxe]; exact nd_mem hi
  refine pickD (d := x.D) (by rw [hxe]; exact ndD_at (k := (i : Int)) (by omega) (by omega)) ?_
  refine And.intro rfl ?_
  rw [hnb]
  have hkl := hf.kid x hx
  have htx := hf.txt x hx
  clear hnb
  refine wp_loop (α := Nat) (fun j => x.kids.length - j) (fun j => [(1, i64 i), (2, .ptr 0 0), (5, .ptr 1 0), (6, .row 2 j), (7, i64 (params (kinds t (x.kids.take j)))), (16, ints x.kids), (17, i64 (x.kids.map (D.int .i64)).length), (18, i64 j)])
    (fun j => [.box [.d (.sl (t.map Nd.D))], .box [i64 x.k, str x.t, i64 x.v, ints x.kids, i64 x.f, i64 x.e], .row 1 ((kinds t (x.kids.take j)).map (D.int .i64))]) (fun j => j ≤ x.kids.length ∧ (x.kids.take j).all (kidOk i) = true) ?_ 0 ⟨by omega, by simp⟩
  rintro j ⟨hj, hall⟩
  refine And.intro (fun h => ?_) (fun h => ?_)
  · replace h := of_decide_eq_true h
    rw [List.length_map] at h
    have hlt : j < x.kids.length := by omega
    refine idx_of (s := x.kids.map (D.int .i64)) (by rw [List.length_map]; exact hlt) ?_
    rw [List.getElem_map]
    refine And.intro rfl ?_
    have bad : kidOk i x.kids[j] = false → x.kids.all (kidOk i) = false := by
      intro hb
      cases hc : x.kids.all (kidOk i) with
      | false => rfl
      | true => have := List.all_eq_true.1 hc _ (List.getElem_mem hlt); rw [hb] at this; cases this
    by_cases k0 : x.kids[j] < 0
    · refine gd_t (decide_eq_true k0) ?_
      repeat' (first | refine run ⟨?_⟩ | fail)
      show _ = _
      rw [bad (by unfold kidOk; rw [decide_eq_false (by omega)]; rfl)]; rfl
    refine gd_f (decide_eq_false k0) ?_
    by_cases k1 : (i : Int) ≤ x.kids[j]
    · refine and_t (decide_eq_true k1) ?_
      show _ = _
      rw [bad (by unfold kidOk; rw [decide_eq_false (by omega : ¬ x.kids[j] < (i : Int)), Bool.and_false])]; rfl
    refine and_f (decide_eq_false k1) ?_
    have hko : kidOk i x.kids[j] = true := by unfold kidOk; rw [decide_eq_true (by omega), decide_eq_true (by omega)]; rfl
    refine pickD (d := (nd t x.kids[j].toNat).D) (ndD_at (by omega) (by omega)) ?_
    refine And.intro rfl ?_
    have hkd : (nd t x.kids[j].toNat).k = kindAt t x.kids[j] := rfl
    have hkt := kinds_take (t := t) hlt
    have hlk : (kinds t (x.kids.take j)).length = j := by simp [kinds]; omega
    have hpl := params_le (kinds t (x.kids.take j))
    have hps := params_snoc (kinds t (x.kids.take j)) (kindAt t x.kids[j])
    rw [← hkt] at hps
    have hnext : (x.kids.take (j + 1)).all (kidOk i) = true := all_upto hlt hall hko
    refine And.intro ⟨rfl, by decide⟩ ?_
    refine And.intro ⟨rfl, by rw [List.length_map, hlk], by unfold roomy; simp; omega⟩ ?_
    refine pickD (d := (nd t x.kids[j].toNat).D) (ndD_at (by omega) (by omega)) ?_
    refine And.intro rfl ?_
    rw [hkd]
    by_cases k7 : kindAt t x.kids[j] = 7
    · refine and_t (decide_eq_true k7) ?_
      rw [if_pos k7] at hps
      refine ⟨j + 1, ⟨by omega, hnext⟩, by omega, ?_, ?_⟩
      · rw [i64w (n := params _ + 1) (by omega), i64w (by omega), hps]; rfl
      · rw [hkt, List.map_append]; rfl
    · refine and_f (decide_eq_false k7) ?_
      rw [if_neg k7] at hps
      refine ⟨j + 1, ⟨by omega, hnext⟩, by omega, ?_, ?_⟩
      · rw [i64w (by omega), hps, Int.add_zero]; rfl
      · rw [hkt, List.map_append]; rfl
  · replace h := of_decide_eq_false h
    rw [List.length_map] at h
    have hj' : j = x.kids.length := by omega
    subst hj'
    rw [List.take_length] at hall ⊢
    rw [hall, Bool.true_and]
    clear hxe
    have hkl2 : (kinds t x.kids).length = x.kids.length := by simp [kinds]
    cases h1 : knownB x.k with
    | true =>
      cases h2 : nmB x.k x.t with
      | true =>
        cases h3 : numB x.k x.v (params (kinds t x.kids)) with
        | true =>
          by_cases h4 : 0 ≤ x.f
          · skip
            by_cases h5 : x.f ≤ x.e
            · skip
              repeat' (first | refine run ⟨?_⟩ | fail)
              try refine ca (known_ev _ _) ?_
              repeat' (first | refine run ⟨?_⟩ | fail)
              try first | refine and_t h1 ?_ | refine gt_t h1 ?_ | refine gd_t h1 ?_
              repeat' (first | refine run ⟨?_⟩ | fail)
              try refine ca (tname_ev _ x htx) ?_
              repeat' (first | refine run ⟨?_⟩ | fail)
              try first | refine and_t h2 ?_ | refine gt_t h2 ?_ | refine gd_t h2 ?_
              repeat' (first | refine run ⟨?_⟩ | fail)
              try refine ca (num_ev _ x _) ?_
              repeat' (first | refine run ⟨?_⟩ | fail)
              try first | refine and_t h3 ?_ | refine gt_t h3 ?_ | refine gd_t h3 ?_
              repeat' (first | refine run ⟨?_⟩ | fail)
              try first | refine and_t (decide_eq_true h4) ?_ | refine gt_t (decide_eq_true h4) ?_ | refine gd_t (decide_eq_true h4) ?_
              repeat' (first | refine run ⟨?_⟩ | fail)
              try first | refine and_t (decide_eq_true h5) ?_ | refine gt_t (decide_eq_true h5) ?_ | refine gd_t (decide_eq_true h5) ?_
              repeat' (first | refine run ⟨?_⟩ | fail)
              refine And.intro (by rw [List.length_map, hkl2]) ?_
              refine ca (fits_ev _ x (kinds t x.kids) (by omega)) ?_
              show _ = _
              simp [oneOf, *]
            · skip
              repeat' (first | refine run ⟨?_⟩ | fail)
              try refine ca (known_ev _ _) ?_
              repeat' (first | refine run ⟨?_⟩ | fail)
              try first | refine and_t h1 ?_ | refine gt_t h1 ?_ | refine gd_t h1 ?_
              repeat' (first | refine run ⟨?_⟩ | fail)
              try refine ca (tname_ev _ x htx) ?_
              repeat' (first | refine run ⟨?_⟩ | fail)
              try first | refine and_t h2 ?_ | refine gt_t h2 ?_ | refine gd_t h2 ?_
              repeat' (first | refine run ⟨?_⟩ | fail)
              try refine ca (num_ev _ x _) ?_
              repeat' (first | refine run ⟨?_⟩ | fail)
              try first | refine and_t h3 ?_ | refine gt_t h3 ?_ | refine gd_t h3 ?_
              repeat' (first | refine run ⟨?_⟩ | fail)
              try first | refine and_t (decide_eq_true h4) ?_ | refine gt_t (decide_eq_true h4) ?_ | refine gd_t (decide_eq_true h4) ?_
              repeat' (first | refine run ⟨?_⟩ | fail)
              try first | refine and_f (decide_eq_false h5) ?_ | refine gt_f (decide_eq_false h5) ?_ | refine gd_f (decide_eq_false h5) ?_
              repeat' (first | refine run ⟨?_⟩ | fail)
              show _ = _
              simp [oneOf, *]
          · skip
            repeat' (first | refine run ⟨?_⟩ | fail)
            try refine ca (known_ev _ _) ?_
            repeat' (first | refine run ⟨?_⟩ | fail)
            try first | refine and_t h1 ?_ | refine gt_t h1 ?_ | refine gd_t h1 ?_
            repeat' (first | refine run ⟨?_⟩ | fail)
            try refine ca (tname_ev _ x htx) ?_
            repeat' (first | refine run ⟨?_⟩ | fail)
            try first | refine and_t h2 ?_ | refine gt_t h2 ?_ | refine gd_t h2 ?_
            repeat' (first | refine run ⟨?_⟩ | fail)
            try refine ca (num_ev _ x _) ?_
            repeat' (first | refine run ⟨?_⟩ | fail)
            try first | refine and_t h3 ?_ | refine gt_t h3 ?_ | refine gd_t h3 ?_
            repeat' (first | refine run ⟨?_⟩ | fail)
            try first | refine and_f (decide_eq_false h4) ?_ | refine gt_f (decide_eq_false h4) ?_ | refine gd_f (decide_eq_false h4) ?_
            repeat' (first | refine run ⟨?_⟩ | fail)
            show _ = _
            simp [oneOf, *]
        | false =>
          repeat' (first | refine run ⟨?_⟩ | fail)
          try refine ca (known_ev _ _) ?_
          repeat' (first | refine run ⟨?_⟩ | fail)
          try first | refine and_t h1 ?_ | refine gt_t h1 ?_ | refine gd_t h1 ?_
          repeat' (first | refine run ⟨?_⟩ | fail)
          try refine ca (tname_ev _ x htx) ?_
          repeat' (first | refine run ⟨?_⟩ | fail)
          try first | refine and_t h2 ?_ | refine gt_t h2 ?_ | refine gd_t h2 ?_
          repeat' (first | refine run ⟨?_⟩ | fail)
          try refine ca (num_ev _ x _) ?_
          repeat' (first | refine run ⟨?_⟩ | fail)
          try first | refine and_f h3 ?_ | refine gt_f h3 ?_ | refine gd_f h3 ?_
          repeat' (first | refine run ⟨?_⟩ | fail)
          show _ = _
          simp [oneOf, *]
      | false =>
        repeat' (first | refine run ⟨?_⟩ | fail)
        try refine ca (known_ev _ _) ?_
        repeat' (first | refine run ⟨?_⟩ | fail)
        try first | refine and_t h1 ?_ | refine gt_t h1 ?_ | refine gd_t h1 ?_
        repeat' (first | refine run ⟨?_⟩ | fail)
        try refine ca (tname_ev _ x htx) ?_
        repeat' (first | refine run ⟨?_⟩ | fail)
        try first | refine and_f h2 ?_ | refine gt_f h2 ?_ | refine gd_f h2 ?_
        repeat' (first | refine run ⟨?_⟩ | fail)
        show _ = _
        simp [oneOf, *]
    | false =>
      repeat' (first | refine run ⟨?_⟩ | fail)
      try refine ca (known_ev _ _) ?_
      repeat' (first | refine run ⟨?_⟩ | fail)
      try first | refine and_f h1 ?_ | refine gt_f h1 ?_ | refine gd_f h1 ?_
      repeat' (first | refine run ⟨?_⟩ | fail)
      show _ = _
      simp [oneOf, *]
end
end Go.Vm.Tre
