import Derived.Test.YtbaoljbcdjdnlaaGreatDoorTreW
set_option linter.unusedSimpArgs false
set_option linter.unusedVariables false
namespace Go.Vm.Tre
open Go.Vm.Tp
open Go.Vm.Lex (nameB)
set_option maxRecDepth 10000
abbrev ints (l : List Int) : V := .d (.sl (l.map (D.int .i64)))
abbrev ndV (x : Nd) : V := .d x.D
section
variable {fx : Nat → Option Obj} (H : Hp)
theorem isType_ev (k : Int) : evF (pgL fx) n_tree_isType [i64 k] H = some (boo (isTy k), H) := by
  refine evF_wp t_tree_isType rfl rfl ?_ H
  repeat' refine And.intro (fun h => ?_) (fun h => ?_)
  all_goals show _ = _
  all_goals simp [oneOf, isTy] at *
  all_goals first | omega | (simp [*]; done)
theorem isStmt_ev (k : Int) : evF (pgL fx) n_tree_isStmt [i64 k] H = some (boo (isSt k), H) := by
  refine evF_wp t_tree_isStmt rfl rfl ?_ H
  repeat' refine And.intro (fun h => ?_) (fun h => ?_)
  all_goals show _ = _
  all_goals simp [oneOf, isSt] at *
  all_goals first | omega | (simp [*]; done)
theorem isPattern_ev (k : Int) : evF (pgL fx) n_tree_isPattern [i64 k] H = some (boo (isPa k), H) := by
  refine evF_wp t_tree_isPattern rfl rfl ?_ H
  repeat' refine And.intro (fun h => ?_) (fun h => ?_)
  all_goals show _ = _
  all_goals simp [oneOf, isPa] at *
  all_goals first | omega | (simp [*]; done)
theorem isExpr_ev (k : Int) : evF (pgL fx) n_tree_isExpr [i64 k] H = some (boo (isEx k), H) := by
  refine evF_wp t_tree_isExpr rfl rfl ?_ H
  repeat' refine And.intro (fun h => ?_) (fun h => ?_)
  all_goals show _ = _
  all_goals simp [oneOf, isEx] at *
  all_goals first | omega | (simp [*]; done) | grind
theorem u8ne {c d : UInt8} {n : Int} (h : c ≠ d) (hn : (d.toNat : Int) = n) : decide ((c.toNat : Int) = n) = false := by
  refine decide_eq_false fun e => h ?_
  apply UInt8.toNat_inj.1; omega
set_option maxHeartbeats 1000000 in
theorem is_ev (c : UInt8) (k : Int) : evF (pgL fx) n_tree_is [u8 c, i64 k] H = some (boo (lett c k), H) := by
  refine evF_wp t_tree_is rfl rfl ?_ H
  by_cases c1 : c = 105
  · subst c1
    by_cases k1 : k = 2
    · subst k1
      repeat' (first | refine run ⟨?_⟩ | fail)
      exact rfl
    by_cases k2 : k = 3
    · subst k2
      repeat' (first | refine run ⟨?_⟩ | fail)
      exact rfl
    by_cases k3 : k = 4
    · subst k3
      repeat' (first | refine run ⟨?_⟩ | fail)
      exact rfl
    rw [show lett 105 k = false from decide_eq_false (by omega)]
    repeat' (first | refine run ⟨?_⟩ | fail)
    show _ = _
    rw [decide_eq_false k3]; rfl
  by_cases c2 : c = 116
  · subst c2
    repeat' (first | refine run ⟨?_⟩ | refine ca (isType_ev _ _) ?_ | fail)
    exact rfl
  by_cases c3 : c = 115
  · subst c3
    repeat' (first | refine run ⟨?_⟩ | refine ca (isStmt_ev _ _) ?_ | fail)
    exact rfl
  by_cases c4 : c = 101
  · subst c4
    repeat' (first | refine run ⟨?_⟩ | refine ca (isExpr_ev _ _) ?_ | fail)
    exact rfl
  by_cases c5 : c = 112
  · subst c5
    repeat' (first | refine run ⟨?_⟩ | refine ca (isPattern_ev _ _) ?_ | fail)
    exact rfl
  by_cases c6 : c = 98
  · subst c6
    repeat' (first | refine run ⟨?_⟩ | fail)
    exact rfl
  by_cases c7 : c = 102
  · subst c7
    repeat' (first | refine run ⟨?_⟩ | fail)
    exact rfl
  by_cases c8 : c = 118
  · subst c8
    repeat' (first | refine run ⟨?_⟩ | fail)
    exact rfl
  by_cases c9 : c = 110
  · subst c9
    repeat' (first | refine run ⟨?_⟩ | fail)
    exact rfl
  by_cases c10 : c = 97
  · subst c10
    repeat' (first | refine run ⟨?_⟩ | fail)
    exact rfl
  by_cases c11 : c = 113
  · subst c11
    repeat' (first | refine run ⟨?_⟩ | fail)
    exact rfl
  by_cases c12 : c = 111
  · subst c12
    by_cases k1 : k = 20
    · subst k1
      repeat' (first | refine run ⟨?_⟩ | fail)
      exact rfl
    by_cases k2 : k = 45
    · subst k2
      repeat' (first | refine run ⟨?_⟩ | fail)
      exact rfl
    rw [show lett 111 k = false from decide_eq_false (by omega)]
    repeat' (first | refine run ⟨?_⟩ | fail)
    show _ = _
    rw [decide_eq_false k2]; rfl
  have e : lett c k = false := by unfold lett; simp [c1, c2, c3, c4, c5, c6, c7, c8, c9, c10, c11, c12]
  rw [e]
  refine and_f (u8ne c1 rfl) ?_
  refine and_f (u8ne c2 rfl) ?_
  refine and_f (u8ne c3 rfl) ?_
  refine and_f (u8ne c4 rfl) ?_
  refine and_f (u8ne c5 rfl) ?_
  refine and_f (u8ne c6 rfl) ?_
  refine and_f (u8ne c7 rfl) ?_
  refine and_f (u8ne c8 rfl) ?_
  refine and_f (u8ne c9 rfl) ?_
  refine and_f (u8ne c10 rfl) ?_
  refine and_f (u8ne c11 rfl) ?_
  refine and_f (u8ne c12 rfl) ?_
  rfl
theorem ints_one (l : List Int) : ((l.map (D.int .i64)).all fun y => y.cells.length == 1) = true := by
  rw [List.all_map, List.all_eq_true]; intro x _; rfl
theorem slc1 {l : List Int} (h : 1 ≤ l.length) : (1 ≤ (l.map (D.int .i64)).length ∧ (l.map (D.int .i64)).length ≤ (l.map (D.int .i64)).length ∧ ((some (Opd.c (i64 1))).isNone || (l.map (D.int .i64)).all fun y => y.cells.length == 1) = true) :=
  ⟨by rw [List.length_map]; exact h, Nat.le_refl _, by rw [ints_one]; rfl⟩
theorem kidsB_cons {c : UInt8} (hc : c ≠ 63) (s : List UInt8) (l : List Int) : kidsB (c :: s) l = (match l with | [] => false | a :: r => lett c a && kidsB s r) := by
  cases s with
  | nil => cases l <;> rfl
  | cons d s => simp only [kidsB, if_neg hc]; cases l <;> rfl
theorem kidsB_q (d : UInt8) (s : List UInt8) (l : List Int) : kidsB (63 :: d :: s) l = ((match l with | [] => false | a :: r => lett d a && kidsB s r) || kidsB s l) := by simp only [kidsB, if_true]; cases l <;> rfl
set_option maxHeartbeats 2000000 in
theorem kids_ev : ∀ (n : Nat) (s : List UInt8) (l : List Int), s.length ≤ n → (∀ a, s ≠ a ++ [63]) → ∀ H, evF (pgL fx) n_tree_kids [str s, ints l] H = some (boo (kidsB s l), H)
  | n, [], l, _, _, H => by
    refine evF_wp t_tree_kids rfl rfl ?_ H
    refine and_t rfl ?_
    show _ = _
    cases l with
    | nil => rfl
    | cons a r => simp [oneOf, kidsB]; omega
  | 0, c :: s, l, h, _, H => by simp at h
  | n + 1, c :: s, l, h, h2, H => by
    have h3 : ∀ a, s ≠ a ++ [63] := fun a e => h2 (c :: a) (by rw [e]; rfl)
    refine evF_wp t_tree_kids rfl rfl ?_ H
    refine and_f rfl ?_
    refine pickD (d := c) ⟨Int.le_refl _, rfl⟩ ?_
    by_cases hc : c = 63
    · subst hc
      cases s with
      | nil => exact absurd rfl (h2 [])
      | cons d s =>
        have h4 : ∀ a, s ≠ a ++ [63] := fun a e => h3 (d :: a) (by rw [e]; rfl)
        have hs : s.length ≤ n := by simp at h; omega
        refine and_t rfl ?_
        rw [kidsB_q]
        have tail : ∀ _ : List Int, List.drop (Int.toNat 2) (List.take (63 :: d :: s).length (63 :: d :: s)) = s := by intro l; simp
        cases l with
        | nil =>
          refine gt_f rfl ?_
          repeat' (first | refine run ⟨?_⟩ | fail)
          refine And.intro ⟨by simp, by simp⟩ ?_
          rw [tail []]
          refine ca (kids_ev n s [] hs h4 _) ?_
          repeat' (first | refine run ⟨?_⟩ | fail)
          exact rfl
        | cons a r =>
          refine gt_t (decide_eq_true (by simp only [List.length_map, List.length_cons]; omega)) ?_
          refine pickD (d := d) ⟨by omega, rfl⟩ ?_
          refine pickD (d := .int .i64 a) ⟨Int.le_refl _, rfl⟩ ?_
          refine And.intro rfl ?_
          refine ca (is_ev _ d a) ?_
          repeat' (first | refine run ⟨?_⟩ | fail)
          cases hl : lett d a with
          | false =>
            refine gt_f rfl ?_
            repeat' (first | refine run ⟨?_⟩ | fail)
            refine And.intro ⟨by simp, by simp⟩ ?_
            rw [tail []]
            refine ca (kids_ev n s (a :: r) hs h4 _) ?_
            repeat' (first | refine run ⟨?_⟩ | fail)
            show _ = _
            simp_all [oneOf]
          | true =>
            refine gt_t rfl ?_
            refine And.intro ⟨by simp, by simp⟩ ?_
            refine And.intro (slc1 (by simp)) ?_
            rw [tail []]
            have e2 : List.drop (Int.toNat 1) (List.take (List.map (D.int .i64) (a :: r)).length (List.map (D.int .i64) (a :: r))) = r.map (D.int .i64) := by rw [List.take_length]; rfl
            rw [e2]
            refine ca (kids_ev n s r hs h4 _) ?_
            repeat' (first | refine run ⟨?_⟩ | fail)
            cases hk : kidsB s r with
            | true =>
              repeat' (first | refine run ⟨?_⟩ | fail)
              repeat' (first | refine run ⟨?_⟩ | fail)
              show _ = _
              simp_all [oneOf]
            | false =>
              repeat' (first | refine run ⟨?_⟩ | fail)
              refine And.intro ⟨by simp, by simp⟩ ?_
              rw [tail []]
              refine ca (kids_ev n s (a :: r) hs h4 _) ?_
              repeat' (first | refine run ⟨?_⟩ | fail)
              show _ = _
              simp_all [oneOf]
    · refine and_f (u8ne hc rfl) ?_
      rw [kidsB_cons hc]
      have hs : s.length ≤ n := by simp at h; omega
      cases l with
      | nil =>
        refine gt_f rfl ?_
        repeat' (first | refine run ⟨?_⟩ | fail)
        exact rfl
      | cons a r =>
        refine gt_t (decide_eq_true (by simp only [List.length_map, List.length_cons]; omega)) ?_
        refine pickD (d := c) ⟨Int.le_refl _, rfl⟩ ?_
        refine pickD (d := .int .i64 a) ⟨Int.le_refl _, rfl⟩ ?_
        refine And.intro rfl ?_
        refine ca (is_ev _ c a) ?_
        repeat' (first | refine run ⟨?_⟩ | fail)
        cases hl : lett c a with
        | false =>
          refine gt_f rfl ?_
          repeat' (first | refine run ⟨?_⟩ | fail)
          show _ = _
          simp_all [oneOf]
        | true =>
          refine gt_t rfl ?_
          refine And.intro ⟨by simp, by simp⟩ ?_
          refine And.intro (slc1 (by simp)) ?_
          have e1 : List.drop (Int.toNat 1) (List.take (c :: s).length (c :: s)) = s := by simp
          have e2 : List.drop (Int.toNat 1) (List.take (List.map (D.int .i64) (a :: r)).length (List.map (D.int .i64) (a :: r))) = r.map (D.int .i64) := by rw [List.take_length]; rfl
          rw [e1, e2]
          refine ca (kids_ev n s r hs h3 _) ?_
          repeat' (first | refine run ⟨?_⟩ | fail)
          show _ = _
          simp_all [oneOf]
end
end Go.Vm.Tre
namespace Go.Vm.Tre
open Go.Vm.Tp
open Go.Vm.Lex (nameB)
set_option maxRecDepth 10000
section
variable {fx : Nat → Option Obj} (H : Hp)
theorem all1_ev (k : Int) (c : UInt8) : evF (pgL fx) «n_tree_all_1» [i64 k, .ptr 0 0] [.box [u8 c]] = some (boo (!lett c k), [.box [u8 c]]) := by
  refine evF_wpOn t_tree_all_1 rfl rfl rfl ?_
  repeat' (first | refine run ⟨?_⟩ | refine ca (is_ev _ _ _) ?_ | fail)
  first | exact rfl | exact ⟨rfl, rfl⟩
theorem idxf_ev (l : List Int) (c : UInt8) (hl : l.length ≤ 1048576) : evF (pgL fx) n_slices_IndexFunc_int_int [ints l, .fn n_tree_all_1 [.ptr 0 0]] [.box [u8 c]] = some (i64 (if l.all (lett c) then -1 else (l.findIdx fun k => !lett c k : Nat)), [.box [u8 c]]) := by
  refine evF_wpOn t_slices_IndexFunc_int_int rfl rfl rfl ?_
  refine wp_loop (α := Nat) (fun i => l.length - i) (fun i => [(0, ints l), (1, .fn n_tree_all_1 [.ptr 0 0]), (7, i64 (l.map (D.int .i64)).length), (8, i64 i)]) (fun _ => [.box [u8 c]]) (fun i => i ≤ l.length ∧ ∀ k ∈ l.take i, lett c k = true) ?_ 0 ⟨by omega, by simp⟩
  rintro i ⟨hi, hall⟩
  refine And.intro (fun h => ?_) (fun h => ?_)
  · replace h := of_decide_eq_true h
    rw [List.length_map] at h
    have hlt : i < l.length := by omega
    refine idx_of (s := l.map (D.int .i64)) (by rw [List.length_map]; exact hlt) ?_
    rw [List.getElem_map]
    refine And.intro rfl ?_
    refine ca (all1_ev l[i] c) ?_
    cases hk : lett c l[i] with
    | true =>
      repeat' (first | refine run ⟨?_⟩ | fail)
      refine ⟨i + 1, ⟨by omega, ?_⟩, by omega, ?_, rfl⟩
      · intro k hkm
        rw [List.take_add_one, List.getElem?_eq_getElem hlt, List.mem_append] at hkm
        rcases hkm with hkm | hkm
        · exact hall k hkm
        · simp at hkm; rw [hkm]; exact hk
      · rw [i64w (by omega)]; rfl
    | false =>
      repeat' (first | refine run ⟨?_⟩ | fail)
      refine ⟨?_, rfl⟩
      have h1 : l.all (lett c) = false := by
        cases hb : l.all (lett c) with
        | false => rfl
        | true => have := List.all_eq_true.1 hb l[i] (List.getElem_mem _); rw [hk] at this; cases this
      rw [h1]
      have h2 : l.findIdx (fun k => !lett c k) = i := by
        rw [List.findIdx_eq hlt]
        refine ⟨by rw [hk]; rfl, fun j hj => ?_⟩
        have : l[j] ∈ l.take i := by rw [List.mem_take_iff_getElem]; exact ⟨j, by omega, rfl⟩
        rw [hall _ this]; rfl
      rw [h2]; rfl
  · replace h := of_decide_eq_false h
    rw [List.length_map] at h
    have hi' : i = l.length := by omega
    subst hi'
    rw [List.take_length] at hall
    refine ⟨?_, rfl⟩
    rw [List.all_eq_true.2 hall]; rfl
theorem cf_ev (l : List Int) (c : UInt8) (hl : l.length ≤ 1048576) : evF (pgL fx) n_slices_ContainsFunc_int_int [ints l, .fn n_tree_all_1 [.ptr 0 0]] [.box [u8 c]] = some (boo (!l.all (lett c)), [.box [u8 c]]) := by
  refine evF_wpOn t_slices_ContainsFunc_int_int rfl rfl rfl ?_
  refine ca (idxf_ev l c hl) ?_
  refine ⟨?_, rfl⟩
  cases l.all (lett c) with
  | true => rfl
  | false => show V.d (.bool (decide (0 ≤ ((l.findIdx fun k => !lett c k : Nat) : Int)))) = _; rw [decide_eq_true (by omega)]; rfl
theorem all_ev (l : List Int) (c : UInt8) (hl : l.length ≤ 1048576) : evF (pgL fx) n_tree_all [u8 c, ints l] H = some (boo (l.all (lett c)), H) := by
  refine evF_wp t_tree_all rfl rfl ?_ H
  refine ca (cf_ev l c hl) ?_
  show _ = _
  cases l.all (lett c) <;> rfl
theorem known_ev (k : Int) : evF (pgL fx) n_tree_known [i64 k] H = some (boo (knownB k), H) := by
  refine evF_wp t_tree_known rfl rfl ?_ H
  by_cases h1 : 1 ≤ k
  · skip
    by_cases h2 : k ≤ 7
    · skip
      repeat' (first | refine run ⟨?_⟩ | fail)
      try first | refine and_t (decide_eq_true h1) ?_ | refine gt_t (decide_eq_true h1) ?_ | refine gd_t (decide_eq_true h1) ?_
      repeat' (first | refine run ⟨?_⟩ | fail)
      try first | refine and_t (decide_eq_true h2) ?_ | refine gt_t (decide_eq_true h2) ?_ | refine gd_t (decide_eq_true h2) ?_
      repeat' (first | refine run ⟨?_⟩ | fail)
      show _ = _
      simp [oneOf, knownB, *]
    · skip
      cases h3 : isTy k with
      | true =>
        repeat' (first | refine run ⟨?_⟩ | fail)
        try first | refine and_t (decide_eq_true h1) ?_ | refine gt_t (decide_eq_true h1) ?_ | refine gd_t (decide_eq_true h1) ?_
        repeat' (first | refine run ⟨?_⟩ | fail)
        try first | refine and_f (decide_eq_false h2) ?_ | refine gt_f (decide_eq_false h2) ?_ | refine gd_f (decide_eq_false h2) ?_
        repeat' (first | refine run ⟨?_⟩ | fail)
        try refine ca (isType_ev _ _) ?_
        repeat' (first | refine run ⟨?_⟩ | fail)
        try first | refine and_t h3 ?_ | refine gt_t h3 ?_ | refine gd_t h3 ?_
        repeat' (first | refine run ⟨?_⟩ | fail)
        show _ = _
        simp [oneOf, knownB, *]
      | false =>
        cases h4 : isSt k with
        | true =>
          repeat' (first | refine run ⟨?_⟩ | fail)
          try first | refine and_t (decide_eq_true h1) ?_ | refine gt_t (decide_eq_true h1) ?_ | refine gd_t (decide_eq_true h1) ?_
          repeat' (first | refine run ⟨?_⟩ | fail)
          try first | refine and_f (decide_eq_false h2) ?_ | refine gt_f (decide_eq_false h2) ?_ | refine gd_f (decide_eq_false h2) ?_
          repeat' (first | refine run ⟨?_⟩ | fail)
          try refine ca (isType_ev _ _) ?_
          repeat' (first | refine run ⟨?_⟩ | fail)
          try first | refine and_f h3 ?_ | refine gt_f h3 ?_ | refine gd_f h3 ?_
          repeat' (first | refine run ⟨?_⟩ | fail)
          try refine ca (isStmt_ev _ _) ?_
          repeat' (first | refine run ⟨?_⟩ | fail)
          try first | refine and_t h4 ?_ | refine gt_t h4 ?_ | refine gd_t h4 ?_
          repeat' (first | refine run ⟨?_⟩ | fail)
          show _ = _
          simp [oneOf, knownB, *]
        | false =>
          cases h5 : isPa k with
          | true =>
            repeat' (first | refine run ⟨?_⟩ | fail)
            try first | refine and_t (decide_eq_true h1) ?_ | refine gt_t (decide_eq_true h1) ?_ | refine gd_t (decide_eq_true h1) ?_
            repeat' (first | refine run ⟨?_⟩ | fail)
            try first | refine and_f (decide_eq_false h2) ?_ | refine gt_f (decide_eq_false h2) ?_ | refine gd_f (decide_eq_false h2) ?_
            repeat' (first | refine run ⟨?_⟩ | fail)
            try refine ca (isType_ev _ _) ?_
            repeat' (first | refine run ⟨?_⟩ | fail)
            try first | refine and_f h3 ?_ | refine gt_f h3 ?_ | refine gd_f h3 ?_
            repeat' (first | refine run ⟨?_⟩ | fail)
            try refine ca (isStmt_ev _ _) ?_
            repeat' (first | refine run ⟨?_⟩ | fail)
            try first | refine and_f h4 ?_ | refine gt_f h4 ?_ | refine gd_f h4 ?_
            repeat' (first | refine run ⟨?_⟩ | fail)
            try refine ca (isPattern_ev _ _) ?_
            repeat' (first | refine run ⟨?_⟩ | fail)
            try first | refine and_t h5 ?_ | refine gt_t h5 ?_ | refine gd_t h5 ?_
            repeat' (first | refine run ⟨?_⟩ | fail)
            show _ = _
            simp [oneOf, knownB, *]
          | false =>
            cases h6 : isEx k with
            | true =>
              repeat' (first | refine run ⟨?_⟩ | fail)
              try first | refine and_t (decide_eq_true h1) ?_ | refine gt_t (decide_eq_true h1) ?_ | refine gd_t (decide_eq_true h1) ?_
              repeat' (first | refine run ⟨?_⟩ | fail)
              try first | refine and_f (decide_eq_false h2) ?_ | refine gt_f (decide_eq_false h2) ?_ | refine gd_f (decide_eq_false h2) ?_
              repeat' (first | refine run ⟨?_⟩ | fail)
              try refine ca (isType_ev _ _) ?_
              repeat' (first | refine run ⟨?_⟩ | fail)
              try first | refine and_f h3 ?_ | refine gt_f h3 ?_ | refine gd_f h3 ?_
              repeat' (first | refine run ⟨?_⟩ | fail)
              try refine ca (isStmt_ev _ _) ?_
              repeat' (first | refine run ⟨?_⟩ | fail)
              try first | refine and_f h4 ?_ | refine gt_f h4 ?_ | refine gd_f h4 ?_
              repeat' (first | refine run ⟨?_⟩ | fail)
              try refine ca (isPattern_ev _ _) ?_
              repeat' (first | refine run ⟨?_⟩ | fail)
              try first | refine and_f h5 ?_ | refine gt_f h5 ?_ | refine gd_f h5 ?_
              repeat' (first | refine run ⟨?_⟩ | fail)
              try refine ca (isExpr_ev _ _) ?_
              repeat' (first | refine run ⟨?_⟩ | fail)
              try first | refine and_t h6 ?_ | refine gt_t h6 ?_ | refine gd_t h6 ?_
              repeat' (first | refine run ⟨?_⟩ | fail)
              show _ = _
              simp [oneOf, knownB, *]
            | false =>
              by_cases h7 : k = 36
              · skip
                repeat' (first | refine run ⟨?_⟩ | fail)
                try first | refine and_t (decide_eq_true h1) ?_ | refine gt_t (decide_eq_true h1) ?_ | refine gd_t (decide_eq_true h1) ?_
                repeat' (first | refine run ⟨?_⟩ | fail)
                try first | refine and_f (decide_eq_false h2) ?_ | refine gt_f (decide_eq_false h2) ?_ | refine gd_f (decide_eq_false h2) ?_
                repeat' (first | refine run ⟨?_⟩ | fail)
                try refine ca (isType_ev _ _) ?_
                repeat' (first | refine run ⟨?_⟩ | fail)
                try first | refine and_f h3 ?_ | refine gt_f h3 ?_ | refine gd_f h3 ?_
                repeat' (first | refine run ⟨?_⟩ | fail)
                try refine ca (isStmt_ev _ _) ?_
                repeat' (first | refine run ⟨?_⟩ | fail)
                try first | refine and_f h4 ?_ | refine gt_f h4 ?_ | refine gd_f h4 ?_
                repeat' (first | refine run ⟨?_⟩ | fail)
                try refine ca (isPattern_ev _ _) ?_
                repeat' (first | refine run ⟨?_⟩ | fail)
                try first | refine and_f h5 ?_ | refine gt_f h5 ?_ | refine gd_f h5 ?_
                repeat' (first | refine run ⟨?_⟩ | fail)
                try refine ca (isExpr_ev _ _) ?_
                repeat' (first | refine run ⟨?_⟩ | fail)
                try first | refine and_f h6 ?_ | refine gt_f h6 ?_ | refine gd_f h6 ?_
                repeat' (first | refine run ⟨?_⟩ | fail)
                try first | refine and_t (decide_eq_true h7) ?_ | refine gt_t (decide_eq_true h7) ?_ | refine gd_t (decide_eq_true h7) ?_
                repeat' (first | refine run ⟨?_⟩ | fail)
                show _ = _
                simp [oneOf, knownB, *]
              · skip
                repeat' (first | refine run ⟨?_⟩ | fail)
                try first | refine and_t (decide_eq_true h1) ?_ | refine gt_t (decide_eq_true h1) ?_ | refine gd_t (decide_eq_true h1) ?_
                repeat' (first | refine run ⟨?_⟩ | fail)
                try first | refine and_f (decide_eq_false h2) ?_ | refine gt_f (decide_eq_false h2) ?_ | refine gd_f (decide_eq_false h2) ?_
                repeat' (first | refine run ⟨?_⟩ | fail)
                try refine ca (isType_ev _ _) ?_
                repeat' (first | refine run ⟨?_⟩ | fail)
                try first | refine and_f h3 ?_ | refine gt_f h3 ?_ | refine gd_f h3 ?_
                repeat' (first | refine run ⟨?_⟩ | fail)
                try refine ca (isStmt_ev _ _) ?_
                repeat' (first | refine run ⟨?_⟩ | fail)
                try first | refine and_f h4 ?_ | refine gt_f h4 ?_ | refine gd_f h4 ?_
                repeat' (first | refine run ⟨?_⟩ | fail)
                try refine ca (isPattern_ev _ _) ?_
                repeat' (first | refine run ⟨?_⟩ | fail)
                try first | refine and_f h5 ?_ | refine gt_f h5 ?_ | refine gd_f h5 ?_
                repeat' (first | refine run ⟨?_⟩ | fail)
                try refine ca (isExpr_ev _ _) ?_
                repeat' (first | refine run ⟨?_⟩ | fail)
                try first | refine and_f h6 ?_ | refine gt_f h6 ?_ | refine gd_f h6 ?_
                repeat' (first | refine run ⟨?_⟩ | fail)
                try first | refine and_f (decide_eq_false h7) ?_ | refine gt_f (decide_eq_false h7) ?_ | refine gd_f (decide_eq_false h7) ?_
                repeat' (first | refine run ⟨?_⟩ | fail)
                show _ = _
                simp [oneOf, knownB, *]
  · skip
    cases h8 : isTy k with
    | true =>
      repeat' (first | refine run ⟨?_⟩ | fail)
      try first | refine and_f (decide_eq_false h1) ?_ | refine gt_f (decide_eq_false h1) ?_ | refine gd_f (decide_eq_false h1) ?_
      repeat' (first | refine run ⟨?_⟩ | fail)
      try refine ca (isType_ev _ _) ?_
      repeat' (first | refine run ⟨?_⟩ | fail)
      try first | refine and_t h8 ?_ | refine gt_t h8 ?_ | refine gd_t h8 ?_
      repeat' (first | refine run ⟨?_⟩ | fail)
      show _ = _
      simp [oneOf, knownB, *]
    | false =>
      cases h9 : isSt k with
      | true =>
        repeat' (first | refine run ⟨?_⟩ | fail)
        try first | refine and_f (decide_eq_false h1) ?_ | refine gt_f (decide_eq_false h1) ?_ | refine gd_f (decide_eq_false h1) ?_
        repeat' (first | refine run ⟨?_⟩ | fail)
        try refine ca (isType_ev _ _) ?_
        repeat' (first | refine run ⟨?_⟩ | fail)
        try first | refine and_f h8 ?_ | refine gt_f h8 ?_ | refine gd_f h8 ?_
        repeat' (first | refine run ⟨?_⟩ | fail)
        try refine ca (isStmt_ev _ _) ?_
        repeat' (first | refine run ⟨?_⟩ | fail)
        try first | refine and_t h9 ?_ | refine gt_t h9 ?_ | refine gd_t h9 ?_
        repeat' (first | refine run ⟨?_⟩ | fail)
        show _ = _
        simp [oneOf, knownB, *]
      | false =>
        cases h10 : isPa k with
        | true =>
          repeat' (first | refine run ⟨?_⟩ | fail)
          try first | refine and_f (decide_eq_false h1) ?_ | refine gt_f (decide_eq_false h1) ?_ | refine gd_f (decide_eq_false h1) ?_
          repeat' (first | refine run ⟨?_⟩ | fail)
          try refine ca (isType_ev _ _) ?_
          repeat' (first | refine run ⟨?_⟩ | fail)
          try first | refine and_f h8 ?_ | refine gt_f h8 ?_ | refine gd_f h8 ?_
          repeat' (first | refine run ⟨?_⟩ | fail)
          try refine ca (isStmt_ev _ _) ?_
          repeat' (first | refine run ⟨?_⟩ | fail)
          try first | refine and_f h9 ?_ | refine gt_f h9 ?_ | refine gd_f h9 ?_
          repeat' (first | refine run ⟨?_⟩ | fail)
          try refine ca (isPattern_ev _ _) ?_
          repeat' (first | refine run ⟨?_⟩ | fail)
          try first | refine and_t h10 ?_ | refine gt_t h10 ?_ | refine gd_t h10 ?_
          repeat' (first | refine run ⟨?_⟩ | fail)
          show _ = _
          simp [oneOf, knownB, *]
        | false =>
          cases h11 : isEx k with
          | true =>
            repeat' (first | refine run ⟨?_⟩ | fail)
            try first | refine and_f (decide_eq_false h1) ?_ | refine gt_f (decide_eq_false h1) ?_ | refine gd_f (decide_eq_false h1) ?_
            repeat' (first | refine run ⟨?_⟩ | fail)
            try refine ca (isType_ev _ _) ?_
            repeat' (first | refine run ⟨?_⟩ | fail)
            try first | refine and_f h8 ?_ | refine gt_f h8 ?_ | refine gd_f h8 ?_
            repeat' (first | refine run ⟨?_⟩ | fail)
            try refine ca (isStmt_ev _ _) ?_
            repeat' (first | refine run ⟨?_⟩ | fail)
            try first | refine and_f h9 ?_ | refine gt_f h9 ?_ | refine gd_f h9 ?_
            repeat' (first | refine run ⟨?_⟩ | fail)
            try refine ca (isPattern_ev _ _) ?_
            repeat' (first | refine run ⟨?_⟩ | fail)
            try first | refine and_f h10 ?_ | refine gt_f h10 ?_ | refine gd_f h10 ?_
            repeat' (first | refine run ⟨?_⟩ | fail)
            try refine ca (isExpr_ev _ _) ?_
            repeat' (first | refine run ⟨?_⟩ | fail)
            try first | refine and_t h11 ?_ | refine gt_t h11 ?_ | refine gd_t h11 ?_
            repeat' (first | refine run ⟨?_⟩ | fail)
            show _ = _
            simp [oneOf, knownB, *]
          | false =>
            by_cases h12 : k = 36
            · skip
              repeat' (first | refine run ⟨?_⟩ | fail)
              try first | refine and_f (decide_eq_false h1) ?_ | refine gt_f (decide_eq_false h1) ?_ | refine gd_f (decide_eq_false h1) ?_
              repeat' (first | refine run ⟨?_⟩ | fail)
              try refine ca (isType_ev _ _) ?_
              repeat' (first | refine run ⟨?_⟩ | fail)
              try first | refine and_f h8 ?_ | refine gt_f h8 ?_ | refine gd_f h8 ?_
              repeat' (first | refine run ⟨?_⟩ | fail)
              try refine ca (isStmt_ev _ _) ?_
              repeat' (first | refine run ⟨?_⟩ | fail)
              try first | refine and_f h9 ?_ | refine gt_f h9 ?_ | refine gd_f h9 ?_
              repeat' (first | refine run ⟨?_⟩ | fail)
              try refine ca (isPattern_ev _ _) ?_
              repeat' (first | refine run ⟨?_⟩ | fail)
              try first | refine and_f h10 ?_ | refine gt_f h10 ?_ | refine gd_f h10 ?_
              repeat' (first | refine run ⟨?_⟩ | fail)
              try refine ca (isExpr_ev _ _) ?_
              repeat' (first | refine run ⟨?_⟩ | fail)
              try first | refine and_f h11 ?_ | refine gt_f h11 ?_ | refine gd_f h11 ?_
              repeat' (first | refine run ⟨?_⟩ | fail)
              try first | refine and_t (decide_eq_true h12) ?_ | refine gt_t (decide_eq_true h12) ?_ | refine gd_t (decide_eq_true h12) ?_
              repeat' (first | refine run ⟨?_⟩ | fail)
              show _ = _
              simp [oneOf, knownB, *]
            · skip
              repeat' (first | refine run ⟨?_⟩ | fail)
              try first | refine and_f (decide_eq_false h1) ?_ | refine gt_f (decide_eq_false h1) ?_ | refine gd_f (decide_eq_false h1) ?_
              repeat' (first | refine run ⟨?_⟩ | fail)
              try refine ca (isType_ev _ _) ?_
              repeat' (first | refine run ⟨?_⟩ | fail)
              try first | refine and_f h8 ?_ | refine gt_f h8 ?_ | refine gd_f h8 ?_
              repeat' (first | refine run ⟨?_⟩ | fail)
              try refine ca (isStmt_ev _ _) ?_
              repeat' (first | refine run ⟨?_⟩ | fail)
              try first | refine and_f h9 ?_ | refine gt_f h9 ?_ | refine gd_f h9 ?_
              repeat' (first | refine run ⟨?_⟩ | fail)
              try refine ca (isPattern_ev _ _) ?_
              repeat' (first | refine run ⟨?_⟩ | fail)
              try first | refine and_f h10 ?_ | refine gt_f h10 ?_ | refine gd_f h10 ?_
              repeat' (first | refine run ⟨?_⟩ | fail)
              try refine ca (isExpr_ev _ _) ?_
              repeat' (first | refine run ⟨?_⟩ | fail)
              try first | refine and_f h11 ?_ | refine gt_f h11 ?_ | refine gd_f h11 ?_
              repeat' (first | refine run ⟨?_⟩ | fail)
              try first | refine and_f (decide_eq_false h12) ?_ | refine gt_f (decide_eq_false h12) ?_ | refine gd_f (decide_eq_false h12) ?_
              repeat' (first | refine run ⟨?_⟩ | fail)
              show _ = _
              simp [oneOf, knownB, *]
theorem sign_ev (s : List UInt8) : evF (pgL fx) n_tree_sign [str s] H = some (boo (decide (s ∈ signsL)), H) := by
  refine evF_wp t_tree_sign rfl rfl ?_ H
  repeat' refine And.intro (fun h => ?_) (fun h => ?_)
  all_goals show _ = _
  all_goals simp only [decide_eq_true_eq, decide_eq_false_iff_not] at *
  all_goals simp [oneOf, signsL, *]
end
end Go.Vm.Tre
namespace Go.Vm.Tre
open Go.Vm.Tp
open Go.Vm.Lex (nameB)
set_option maxRecDepth 10000
section
variable {fx : Nat → Option Obj} (H : Hp)
set_option maxHeartbeats 2000000 in
theorem shape_ev (x : Nd) : evF (pgL fx) n_tree_shape [ndV x] H = some (str (shapeL x.k x.v), H) := by
  obtain ⟨k, t, v, kids, f, e⟩ := x
  refine evF_wp t_tree_shape rfl rfl ?_ H
  by_cases c1 : k = 1
  · subst c1
    repeat' (first | refine run ⟨?_⟩ | fail)
    exact rfl
  by_cases c2 : k = 2
  · subst c2
    repeat' (first | refine run ⟨?_⟩ | fail)
    exact rfl
  by_cases c3 : k = 3
  · subst c3
    repeat' (first | refine run ⟨?_⟩ | fail)
    exact rfl
  by_cases c4 : k = 4
  · subst c4
    repeat' (first | refine run ⟨?_⟩ | fail)
    exact rfl
  by_cases c5 : k = 5
  · subst c5
    repeat' (first | refine run ⟨?_⟩ | fail)
    exact rfl
  by_cases c7 : k = 7
  · subst c7
    repeat' (first | refine run ⟨?_⟩ | fail)
    exact rfl
  by_cases c14 : k = 14
  · subst c14
    repeat' (first | refine run ⟨?_⟩ | fail)
    exact rfl
  by_cases c15 : k = 15
  · subst c15
    repeat' (first | refine run ⟨?_⟩ | fail)
    exact rfl
  by_cases c16 : k = 16
  · subst c16
    repeat' (first | refine run ⟨?_⟩ | fail)
    exact rfl
  by_cases c6 : k = 6
  · subst c6
    repeat' (first | refine run ⟨?_⟩ | fail)
    exact rfl
  by_cases c21 : k = 21
  · subst c21
    repeat' (first | refine run ⟨?_⟩ | fail)
    exact rfl
  by_cases c23 : k = 23
  · subst c23
    repeat' (first | refine run ⟨?_⟩ | fail)
    exact rfl
  by_cases c38 : k = 38
  · subst c38
    repeat' (first | refine run ⟨?_⟩ | fail)
    exact rfl
  by_cases c24 : k = 24
  · subst c24
    repeat' (first | refine run ⟨?_⟩ | fail)
    exact rfl
  by_cases c25 : k = 25
  · subst c25
    repeat' (first | refine run ⟨?_⟩ | fail)
    exact rfl
  by_cases c37 : k = 37
  · subst c37
    repeat' (first | refine run ⟨?_⟩ | fail)
    exact rfl
  by_cases c34 : k = 34
  · subst c34
    repeat' (first | refine run ⟨?_⟩ | fail)
    exact rfl
  by_cases c35 : k = 35
  · subst c35
    repeat' (first | refine run ⟨?_⟩ | fail)
    exact rfl
  by_cases c22 : k = 22
  · subst c22
    repeat' (first | refine run ⟨?_⟩ | fail)
    exact rfl
  by_cases c36 : k = 36
  · subst c36
    repeat' (first | refine run ⟨?_⟩ | fail)
    exact rfl
  by_cases c41 : k = 41
  · subst c41
    repeat' (first | refine run ⟨?_⟩ | fail)
    exact rfl
  by_cases c39 : k = 39
  · subst c39
    repeat' (first | refine run ⟨?_⟩ | fail)
    exact rfl
  by_cases c40 : k = 40
  · subst c40
    repeat' (first | refine run ⟨?_⟩ | fail)
    exact rfl
  by_cases c42 : k = 42
  · subst c42
    repeat' (first | refine run ⟨?_⟩ | fail)
    exact rfl
  by_cases c44 : k = 44
  · subst c44
    repeat' (first | refine run ⟨?_⟩ | fail)
    exact rfl
  by_cases c43 : k = 43
  · subst c43
    repeat' (first | refine run ⟨?_⟩ | fail)
    exact rfl
  by_cases c45 : k = 45
  · subst c45
    repeat' (first | refine run ⟨?_⟩ | fail)
    exact rfl
  by_cases c46 : k = 46
  · subst c46
    repeat' (first | refine run ⟨?_⟩ | fail)
    exact rfl
  by_cases c47 : k = 47
  · subst c47
    repeat' (first | refine run ⟨?_⟩ | fail)
    exact rfl
  by_cases c54 : k = 54
  · subst c54
    repeat' (first | refine run ⟨?_⟩ | fail)
    exact rfl
  by_cases c20 : k = 20
  · subst c20
    by_cases hv : v = 1
    · subst hv
      repeat' (first | refine run ⟨?_⟩ | fail)
      exact rfl
    rw [show shapeL 20 v = [42, 115] by simp [shapeL, shapeP, shapeOf, hv]]
    repeat' (first | refine run ⟨?_⟩ | fail)
    exact rfl
  have e0 : shapeL k v = [] := by
    unfold shapeL shapeP
    simp only [c1, c2, c3, c4, c5, c7, c14, c15, c16, c6, c21, c23, c38, c24, c25, c37, c34, c35, c22, c36, c41, c39, c40, c42, c44, c43, c45, c46, c47, c54, c20, if_false, or_self]
    rfl
  rw [e0]
  repeat' (first | refine run ⟨?_⟩ | fail)
  exact rfl
end
end Go.Vm.Tre
