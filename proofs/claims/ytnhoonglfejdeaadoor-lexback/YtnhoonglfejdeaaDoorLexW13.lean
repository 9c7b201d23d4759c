import Derived.Test.YtnhoonglfejdeaaDoorLexW12
import Derived.Lib.ItoaLen
/- Tokens as a source. -/
namespace Go.Vm.Lex
set_option maxRecDepth 10000
/-- A token, as it may come in. -/
structure TkA where
  k : Int
  t : List UInt8
  v : Int
  f : Int
  e : Int
def TkA.D (x : TkA) : D := tkD x.k x.t x.v x.f x.e
def TkA.Fine (x : TkA) : Prop := x.t.length ≤ maxLen ∧ -9223372036854775808 ≤ x.v ∧ x.v ≤ 9223372036854775807
def fitsB (k : Int) (t : List UInt8) (v : Int) : Bool :=
  if k = 1 then nameB t else if k = 2 then wordB t else if k = 3 then decide (0 ≤ v) && decide (t = Lib.itoa v)
  else if k = 4 then decide (t ≠ []) && decide (signL t = t) else if k = 5 then decide (t = []) else false
def rightB (k : Int) (t : List UInt8) (v : Int) : Bool :=
  if k = 1 then nameB t else if k = 2 then wordB t else if k = 3 then decide (0 ≤ v) && decide (t = Lib.itoa v)
  else if k = 4 then decide (t ≠ []) && decide (signL t = t) else decide (k = 5)
section
variable {fx : Nat → Option Obj} (H : Hp)
theorem fmt_ev (v : Int) (h : -9223372036854775808 ≤ v ∧ v ≤ 9223372036854775807) : evF (pgL fx) n_primFmt [i64 v, i64 10] H = some (str (Lib.itoa v), H) := by
  rw [evF_prim t_primFmt]
  exact if_pos ⟨h, rfl⟩
theorem fits_ev (x : TkA) (hx : x.Fine) : evF (pgL fx) n_lex_fits [.d x.D] H = some (boo (fitsB x.k x.t x.v), H) := by
  obtain ⟨k, t, v, f, e⟩ := x
  obtain ⟨h1, h2, h3⟩ := hx
  simp only at h1 h2 h3
  refine evF_wp t_lex_fits rfl rfl ?_ H
  unfold fitsB
  simp only
  by_cases c1 : k = 1
  · rw [if_pos c1]
    refine and_t (decide_eq_true c1) ?_
    refine Exists.intro _ (Exists.intro _ (And.intro (name_ev _ _ h1) ?_))
    rfl
  rw [if_neg c1]
  refine and_f (decide_eq_false c1) ?_
  by_cases c2 : k = 2
  · rw [if_pos c2]
    refine and_t (decide_eq_true c2) ?_
    refine Exists.intro _ (Exists.intro _ (And.intro (word_ev _ _) ?_))
    rfl
  rw [if_neg c2]
  refine and_f (decide_eq_false c2) ?_
  by_cases c3 : k = 3
  · rw [if_pos c3]
    refine and_t (decide_eq_true c3) ?_
    refine And.intro (fun h => ?_) (fun h => ?_)
    · refine Exists.intro _ (Exists.intro _ (And.intro (fmt_ev _ _ ⟨h2, h3⟩) ?_))
      refine And.intro (grew_self _) ?_
      show _ = _
      rw [h]; rfl
    · have h' : decide (0 ≤ v) = false := h
      refine And.intro (grew_self _) ?_
      show _ = _
      rw [h']; rfl
  rw [if_neg c3]
  refine and_f (decide_eq_false c3) ?_
  by_cases c4 : k = 4
  · rw [if_pos c4]
    refine and_t (decide_eq_true c4) ?_
    refine And.intro (fun h => ?_) (fun h => ?_)
    · refine Exists.intro _ (Exists.intro _ (And.intro (sign_ev _ _) ?_))
      refine And.intro (grew_self _) ?_
      have h' : t ≠ [] := by simpa using h
      show _ = _
      rw [decide_eq_true h']; rfl
    · have h' : t = [] := by simpa using h
      subst h'
      refine And.intro (grew_self _) ?_
      rfl
  rw [if_neg c4]
  refine and_f (decide_eq_false c4) ?_
  by_cases c5 : k = 5
  · rw [if_pos c5]
    refine and_t (decide_eq_true c5) ?_
    rfl
  rw [if_neg c5]
  refine and_f (decide_eq_false c5) ?_
  rfl
theorem right_ev (x : TkA) (hx : x.Fine) : evF (pgL fx) n_ref11_right [.d x.D] H = some (boo (rightB x.k x.t x.v), H) := by
  obtain ⟨k, t, v, f, e⟩ := x
  obtain ⟨h1, h2, h3⟩ := hx
  simp only at h1 h2 h3
  refine evF_wp t_ref11_right rfl rfl ?_ H
  unfold rightB
  simp only
  by_cases c1 : k = 1
  · rw [if_pos c1]
    refine and_t (decide_eq_true c1) ?_
    refine Exists.intro _ (Exists.intro _ (And.intro (rname_ev _ _ h1) ?_))
    rfl
  rw [if_neg c1]
  refine and_f (decide_eq_false c1) ?_
  by_cases c2 : k = 2
  · rw [if_pos c2]
    refine and_t (decide_eq_true c2) ?_
    refine Exists.intro _ (Exists.intro _ (And.intro (rword_ev _ _) ?_))
    rfl
  rw [if_neg c2]
  refine and_f (decide_eq_false c2) ?_
  by_cases c3 : k = 3
  · rw [if_pos c3]
    refine and_t (decide_eq_true c3) ?_
    refine And.intro (fun h => ?_) (fun h => ?_)
    · refine Exists.intro _ (Exists.intro _ (And.intro (fmt_ev _ _ ⟨h2, h3⟩) ?_))
      refine And.intro (grew_self _) ?_
      show _ = _
      rw [h]; rfl
    · have h' : decide (0 ≤ v) = false := h
      refine And.intro (grew_self _) ?_
      show _ = _
      rw [h']; rfl
  rw [if_neg c3]
  refine and_f (decide_eq_false c3) ?_
  by_cases c4 : k = 4
  · rw [if_pos c4]
    refine and_t (decide_eq_true c4) ?_
    refine And.intro (fun h => ?_) (fun h => ?_)
    · have h' : t ≠ [] := by simpa using h
      have hp := List.length_pos_iff.2 h'
      refine Exists.intro _ (Exists.intro _ (And.intro (rsign_ev _ t 0 hp (by omega)) ?_))
      refine And.intro (grew_self _) ?_
      show _ = _
      rw [decide_eq_true h', List.drop_zero]; rfl
    · have h' : t = [] := by simpa using h
      subst h'
      refine And.intro (grew_self _) ?_
      rfl
  rw [if_neg c4]
  refine and_f (decide_eq_false c4) ?_
  rfl
end
theorem words_len : ∀ w ∈ wordsL, 1 ≤ w.length ∧ w.length ≤ 8 := by decide
theorem fits_len {k : Int} {t : List UInt8} {v : Int} (h : fitsB k t v = true) (h5 : k ≠ 5) (hv : v ≤ 9223372036854775807) : 1 ≤ t.length ∧ t.length ≤ 64 := by
  unfold fitsB at h
  split at h
  · simp [nameB, speltB] at h
    have : t.length ≠ 0 := fun e => h.1.1.1.1.1 (List.length_eq_zero_iff.1 e)
    omega
  · split at h
    · have := words_len t (by simpa [wordB] using h); omega
    · split at h
      · simp at h
        obtain ⟨h1, rfl⟩ := h
        unfold Lib.itoa
        rw [if_neg (by omega), Lib.decDigits_length]
        have := Lib.nDigits_le20 v.toNat (by omega)
        have h2 := Lib.nDigits_pos v.toNat
        omega
      · split at h
        · simp at h
          obtain ⟨h1, h2⟩ := h
          have : t.length ≠ 0 := fun e => h1 (List.length_eq_zero_iff.1 e)
          rcases signL_cases t with e | ⟨_, e, _⟩ | ⟨_, e, _⟩
          · rw [h2] at e; exact absurd e h1
          · rw [h2] at e; rw [e, List.length_take]; omega
          · rw [h2] at e; rw [e, List.length_take]; omega
        · cases h
def outT (l : List TkA) : List (List UInt8) := (l.filter fun x => !decide (x.k = 5)).map (·.t)
def prR (l : List TkA) : V :=
  if 65536 < l.length then .tup [str [], i64 2]
  else if l.all (fun x => fitsB x.k x.t x.v) then .tup [str (Lib.join (outT l) [32]), i64 0] else .tup [str [], i64 8]
theorem lens_le {n : Nat} : ∀ (r : List (List UInt8)), (∀ x ∈ r, x.length ≤ n) → (Lib.joinTail [32] r).length ≤ (n + 1) * r.length
  | [], _ => by simp [Lib.joinTail]
  | x :: r, h => by
    have ih := lens_le r fun y hy => h y (by simp [hy])
    have hx := h x (by simp)
    simp only [Lib.joinTail, List.map_cons, List.flatten_cons, List.length_append, List.length_cons, List.length_nil] at ih ⊢
    rw [Nat.mul_add]; omega
theorem join_le {n : Nat} (r : List (List UInt8)) (h : ∀ x ∈ r, x.length ≤ n) : (Lib.join r [32]).length ≤ (n + 1) * r.length := by
  cases r with
  | nil => simp [Lib.join_nil]
  | cons x r =>
    have ih := lens_le r fun y hy => h y (by simp [hy])
    have hx := h x (by simp)
    rw [Lib.join_cons, List.length_append, List.length_cons, Nat.mul_add]; omega
theorem join_snoc (xs : List (List UInt8)) (y : List UInt8) : Lib.join (xs ++ [y]) [32] = if xs = [] then y else Lib.join xs [32] ++ [32] ++ y := by
  cases xs with
  | nil => simp [Lib.join_one]
  | cons x r =>
    rw [if_neg (List.cons_ne_nil _ _), List.cons_append, Lib.join_cons, Lib.join_cons]
    simp [Lib.joinTail]
theorem join_empty {r : List (List UInt8)} (h : ∀ x ∈ r, 1 ≤ x.length) : Lib.join r [32] = [] ↔ r = [] := by
  cases r with
  | nil => simp [Lib.join_nil]
  | cons x r =>
    have hx := h x (by simp)
    rw [Lib.join_cons]
    constructor
    · intro e
      have := congrArg List.length e
      rw [List.length_append] at this; simp at this; rw [this.1] at hx; simp at hx
    · intro e; cases e
theorem outT_take {l : List TkA} {i : Nat} (h : i < l.length) : outT (l.take (i + 1)) = outT (l.take i) ++ (if l[i].k = 5 then [] else [l[i].t]) := by
  unfold outT
  rw [List.take_add_one, List.getElem?_eq_getElem h, List.filter_append, List.map_append]
  by_cases h5 : l[i].k = 5
  · simp [h5]
  · simp [h5]
theorem outT_len (l : List TkA) : (outT l).length ≤ l.length := by unfold outT; rw [List.length_map]; exact List.length_filter_le _ _
theorem outT_texts {l : List TkA} (hf : ∀ x ∈ l, fitsB x.k x.t x.v = true ∧ x.v ≤ 9223372036854775807) : ∀ t ∈ outT l, 1 ≤ t.length ∧ t.length ≤ 64 := by
  intro t ht
  unfold outT at ht
  rw [List.mem_map] at ht
  obtain ⟨x, hx, rfl⟩ := ht
  rw [List.mem_filter] at hx
  obtain ⟨h1, h2⟩ := hf x hx.1
  exact fits_len h1 (by simpa using hx.2) h2
theorem fits_all {l : List TkA} {i : Nat} (h : i < l.length) (hf : fitsB l[i].k l[i].t l[i].v = false) : l.all (fun x => fitsB x.k x.t x.v) = false := by
  cases hb : l.all (fun x => fitsB x.k x.t x.v) with
  | false => rfl
  | true => have := List.all_eq_true.1 hb l[i] (List.getElem_mem _); rw [hf] at this; cases this
section
variable {fx : Nat → Option Obj} (H : Hp)
theorem join_ev (xs : List (List UInt8)) (h1 : xs.length ≤ 65536) (h2 : ∀ x ∈ xs, x.length ≤ 64) : evF (pgL fx) n_primJoin [.d (.sl (xs.map .str)), str [32]] H = some (str (Lib.join xs [32]), H) := by
  have hl := join_le xs h2
  rw [evF_prim t_primJoin]
  show (match strsOf (xs.map D.str) with
    | some xs => if xs.length ≤ 140737488355328 ∧ (Lib.join xs [32]).length ≤ 140737488355328 then some (V.d (.str (Lib.join xs [32])), H) else none
    | none => none) = _
  rw [strsOf_map]
  exact if_pos ⟨by omega, by omega⟩
theorem take_fits {l : List TkA} {i : Nat} (h : i < l.length) (hall : ∀ x ∈ l.take i, fitsB x.k x.t x.v = true) (hi : fitsB l[i].k l[i].t l[i].v = true) : ∀ x ∈ l.take (i + 1), fitsB x.k x.t x.v = true := by
  intro x hx
  rw [List.take_add_one, List.getElem?_eq_getElem h, List.mem_append] at hx
  rcases hx with hx | hx
  · exact hall x hx
  · simp at hx; rw [hx]; exact hi
set_option maxHeartbeats 1000000 in
theorem print_ev (l : List TkA) (hl : ∀ x ∈ l, x.Fine) : evF (pgL fx) n_lex_Print [.d (.sl (l.map TkA.D))] H = some (prR l, H) := by
  refine evF_wp t_lex_Print rfl rfl ?_ H
  unfold prR
  by_cases h1 : 65536 < l.length
  · rw [if_pos h1]
    refine and_t (decide_eq_true (by rw [List.length_map]; omega)) ?_
    rfl
  rw [if_neg h1]
  refine and_f (decide_eq_false (by rw [List.length_map]; omega)) ?_
  refine wp_loop (α := Nat) (fun i => l.length - i) (fun i => [(4, .row 0 (outT (l.take i)).length), (10, .d (.sl (l.map TkA.D))), (11, i64 (l.map TkA.D).length), (12, i64 i)]) (fun i => [.row 1 ((outT (l.take i)).map D.str)]) (fun i => i ≤ l.length ∧ ∀ x ∈ l.take i, fitsB x.k x.t x.v = true) ?_ 0 ⟨by omega, by simp⟩
  rintro i ⟨hi, hall⟩
  have hol := outT_len (l.take i)
  rw [List.length_take] at hol
  refine And.intro (fun h => ?_) (fun h => ?_)
  · replace h := of_decide_eq_true h
    rw [List.length_map] at h
    have hlt : i < l.length := by omega
    have hlt' : i < (l.map TkA.D).length := by rw [List.length_map]; exact hlt
    have hfine := hl l[i] (List.getElem_mem _)
    have hot := outT_take hlt
    refine idx_of hlt' ?_
    rw [List.getElem_map]
    refine And.intro rfl ?_
    refine Exists.intro _ (Exists.intro _ (And.intro (fits_ev _ l[i] hfine) ?_))
    cases hf : fitsB l[i].k l[i].t l[i].v with
    | false =>
      refine and_t rfl ?_
      show _ = _
      rw [fits_all hlt hf]; rfl
    | true =>
      refine and_f rfl ?_
      have hnext := take_fits hlt hall hf
      by_cases h5 : l[i].k = 5
      · rw [if_pos h5, List.append_nil] at hot
        refine and_f (by rw [h5]; rfl) ?_
        refine ⟨i + 1, ⟨by omega, hnext⟩, by omega, ?_, ?_⟩
        · rw [i64w (by omega), hot]; rfl
        · rw [hot]
      · rw [if_neg h5] at hot
        refine and_t (by simp [h5]) ?_
        refine And.intro ⟨rfl, by decide⟩ ?_
        refine And.intro ⟨rfl, by simp, ⟨by simp; omega, by simp; omega⟩⟩ ?_
        refine ⟨i + 1, ⟨by omega, hnext⟩, by omega, ?_, ?_⟩
        · rw [i64w (by omega), hot, List.length_append]; rfl
        · rw [hot, List.map_append]; rfl
  · replace h := of_decide_eq_false h
    rw [List.length_map] at h
    have hi' : i = l.length := by omega
    subst hi'
    rw [List.take_length] at hall hol ⊢
    have hb : l.all (fun x => fitsB x.k x.t x.v) = true := List.all_eq_true.2 hall
    refine And.intro (by simp) ?_
    refine Exists.intro _ (Exists.intro _ (And.intro (join_ev _ (outT l) (by omega) (fun t ht => (outT_texts (fun x hx => ⟨hall x hx, (hl x hx).2.2⟩) t ht).2)) ?_))
    show _ = _
    rw [hb]; rfl
set_option maxHeartbeats 1000000 in
theorem rprint_ev (l : List TkA) (hl : ∀ x ∈ l, x.Fine) : evF (pgL fx) n_ref11_Print [.d (.sl (l.map TkA.D))] H = some (prR l, H) := by
  refine evF_wp t_ref11_Print rfl rfl ?_ H
  unfold prR
  by_cases h1 : 65536 < l.length
  · rw [if_pos h1]
    refine and_t (decide_eq_true (by rw [List.length_map]; omega)) ?_
    rfl
  rw [if_neg h1]
  refine and_f (decide_eq_false (by rw [List.length_map]; omega)) ?_
  refine wp_loop (α := Nat) (fun i => l.length - i) (fun i => [(4, str (Lib.join (outT (l.take i)) [32])), (10, .d (.sl (l.map TkA.D))), (11, i64 (l.map TkA.D).length), (12, i64 i)]) (fun i => []) (fun i => i ≤ l.length ∧ ∀ x ∈ l.take i, fitsB x.k x.t x.v = true) ?_ 0 ⟨by omega, by simp⟩
  rintro i ⟨hi, hall⟩
  have hol := outT_len (l.take i)
  rw [List.length_take] at hol
  refine And.intro (fun h => ?_) (fun h => ?_)
  · replace h := of_decide_eq_true h
    rw [List.length_map] at h
    have hlt : i < l.length := by omega
    have hlt' : i < (l.map TkA.D).length := by rw [List.length_map]; exact hlt
    have hfine := hl l[i] (List.getElem_mem _)
    have hot := outT_take hlt
    have htx : ∀ t ∈ outT (l.take i), 1 ≤ t.length ∧ t.length ≤ 64 := outT_texts fun x hx => ⟨hall x hx, (hl x (List.mem_of_mem_take hx)).2.2⟩
    have hjl := join_le (outT (l.take i)) fun t ht => (htx t ht).2
    have hje := join_empty (r := outT (l.take i)) fun t ht => (htx t ht).1
    refine idx_of hlt' ?_
    rw [List.getElem_map]
    refine And.intro rfl ?_
    refine Exists.intro _ (Exists.intro _ (And.intro (right_ev _ l[i] hfine) ?_))
    have hrf : ∀ b, fitsB l[i].k l[i].t l[i].v = b → (l[i].k ≠ 5 ∧ rightB l[i].k l[i].t l[i].v = b) ∨ (l[i].k = 5 ∧ rightB l[i].k l[i].t l[i].v = true ∧ decide (l[i].t = []) = b) := by
      intro b hb
      by_cases h5 : l[i].k = 5
      · right
        refine ⟨h5, by simp [rightB, h5], ?_⟩
        rw [← hb]; simp [fitsB, h5]
      · left
        refine ⟨h5, ?_⟩
        rw [← hb]; simp [fitsB, rightB, h5]
    by_cases h5 : l[i].k = 5
    · rw [if_pos h5, List.append_nil] at hot
      rw [show rightB l[i].k l[i].t l[i].v = true by simp [rightB, h5]]
      refine gd_f rfl ?_
      refine and_t (by rw [h5]; rfl) ?_
      by_cases ht : l[i].t = []
      · have hf : fitsB l[i].k l[i].t l[i].v = true := by simp [fitsB, h5, ht]
        refine and_f (by rw [decide_eq_true ht]; rfl) ?_
        refine and_t (by rw [h5]; rfl) ?_
        refine ⟨i + 1, ⟨by omega, take_fits hlt hall hf⟩, by omega, ?_, rfl⟩
        rw [i64w (by omega), hot]; rfl
      · have hf : fitsB l[i].k l[i].t l[i].v = false := by simp [fitsB, h5, ht]
        refine and_t (by rw [decide_eq_false ht]; rfl) ?_
        show _ = _
        rw [fits_all hlt hf]; rfl
    · rw [if_neg h5] at hot
      have hrb : rightB l[i].k l[i].t l[i].v = fitsB l[i].k l[i].t l[i].v := by simp [fitsB, rightB, h5]
      rw [hrb]
      cases hf : fitsB l[i].k l[i].t l[i].v with
      | false =>
        refine gd_t rfl ?_
        refine and_t rfl ?_
        show _ = _
        rw [fits_all hlt hf]; rfl
      | true =>
        have htl := fits_len hf h5 hfine.2.2
        refine gd_f rfl ?_
        refine and_f (decide_eq_false h5) ?_
        refine and_f rfl ?_
        refine and_f (decide_eq_false h5) ?_
        have hsn : Lib.join (outT (l.take (i + 1))) [32] = if outT (l.take i) = [] then l[i].t else Lib.join (outT (l.take i)) [32] ++ [32] ++ l[i].t := by rw [hot, join_snoc]
        by_cases ho : outT (l.take i) = []
        · rw [if_pos ho] at hsn
          have he := hje.2 ho
          refine and_f (by rw [decide_eq_true he]; rfl) ?_
          refine And.intro (by omega) ?_
          refine ⟨i + 1, ⟨by omega, take_fits hlt hall hf⟩, by omega, ?_, rfl⟩
          rw [i64w (by omega), hsn, he]; rfl
        · rw [if_neg ho] at hsn
          have he : ¬ Lib.join (outT (l.take i)) [32] = [] := fun e => ho (hje.1 e)
          refine and_t (by rw [decide_eq_false he]; rfl) ?_
          refine And.intro (by simp; omega) ?_
          refine And.intro (by simp; omega) ?_
          refine ⟨i + 1, ⟨by omega, take_fits hlt hall hf⟩, by omega, ?_, rfl⟩
          rw [i64w (by omega), hsn]; rfl
  · replace h := of_decide_eq_false h
    rw [List.length_map] at h
    have hi' : i = l.length := by omega
    subst hi'
    rw [List.take_length] at hall hol ⊢
    have hb : l.all (fun x => fitsB x.k x.t x.v) = true := List.all_eq_true.2 hall
    show _ = _
    rw [hb]; rfl
theorem prR_tup (l : List TkA) : ∃ (t : List UInt8) (c : Int), prR l = .tup [str t, i64 c] := by
  unfold prR; repeat' split
  all_goals exact ⟨_, _, rfl⟩
theorem lexPrints_ev (l : List TkA) (hl : ∀ x ∈ l, x.Fine) : evF (pgL fx) n_law11_LexPrints [.d (.sl (l.map TkA.D))] H = some (boo true, H) := by
  have e1 := fun H : Hp => print_ev (fx := fx) H l hl
  have e2 := fun H : Hp => rprint_ev (fx := fx) H l hl
  obtain ⟨t, c, e⟩ := prR_tup l
  rw [e] at e1 e2
  refine evF_wp t_law11_LexPrints rfl rfl ?_ H
  refine Exists.intro _ (Exists.intro _ (And.intro (e1 _) ?_))
  refine Exists.intro _ (Exists.intro _ (And.intro (e2 _) ?_))
  refine and_t (by simp) ?_
  refine and_t (by simp) ?_
  refine Exists.intro _ (Exists.intro _ (And.intro (small_ev _) ?_))
  rfl
end
end Go.Vm.Lex
