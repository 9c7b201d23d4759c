import Derived.Test.YtnhoonglfejdeaaDoorLexW8
import Derived.Test.YtnhoonglfejdeaaDoorLexP5
set_option linter.unusedSimpArgs false
set_option linter.unusedVariables false
namespace Go.Vm.Lex
set_option maxRecDepth 10000
def Tok.D (t : Tok) : D := tkD t.k t.t t.v t.f t.e
def toksR (r : List Tok × Dg) : V := .tup [.d (.sl (r.1.map Tok.D)), .d (dgD r.2.c r.2.f r.2.e)]
theorem utfAt_eq (s : List UInt8) : ∀ (f i : Nat), s.length - i ≤ f → utfAt ⟨s.toArray⟩ f i = strange i (s.drop i) := by
  intro f
  induction f with
  | zero =>
    intro i h
    rw [List.drop_eq_nil_of_le (by omega), strange_nil]; rfl
  | succ f ih =>
    intro i h
    have hsz : (⟨s.toArray⟩ : ByteArray).size = s.length := by simp [ByteArray.size]
    unfold utfAt
    rw [hsz]
    split
    · rename_i hlt
      obtain ⟨h1, h2⟩ := dec_sz s i hlt
      have hne : s.drop i ≠ [] := by intro e; have := congrArg List.length e; simp at this; omega
      by_cases h0 : szL (s.drop i) = 0
      · rw [if_pos (h1.2 h0), strange_bad i hne h0]
      · rw [if_neg (fun e => h0 (h1.1 e)), h2 h0, strange_step i hne h0, List.drop_drop]
        exact ih _ (by omega)
    · rw [List.drop_eq_nil_of_le (by omega), strange_nil]
theorem wD_eq (s : List UInt8) (h : s ≠ []) (h0 : szL s ≠ 0) : wD s = szL s := by
  have hp := List.length_pos_iff.2 h
  obtain ⟨h1, h2⟩ := dec_sz s 0 hp
  have hsz : (⟨s.toArray⟩ : ByteArray).size = s.length := by simp [ByteArray.size]
  unfold wD decGo
  rw [if_neg (by omega)]
  exact h2 h0
section
variable {fx : Nat → Option Obj} (H : Hp)
theorem utf_ev (s : List UInt8) : evF (pgL fx) n_primUtf [str s] H = some (i64 (strange 0 s), H) := by
  rw [evF_prim t_primUtf]
  show some (V.d (D.int .i64 (utfAt ⟨s.toArray⟩ s.length 0)), H) = _
  rw [utfAt_eq s s.length 0 (by omega), List.drop_zero]
theorem strange_ev (s : List UInt8) (hs : s.length ≤ 4611686018427387904) : evF (pgL fx) n_ref11_strange [str s] H = some (i64 (strange 0 s), H) := by
  refine evF_wp t_ref11_strange rfl rfl ?_ H
  refine wp_loop (α := Nat) (fun i => s.length - i) (fun i => [(0, str s), (3, i64 i)]) (fun _ => []) (fun i => i ≤ s.length ∧ strange i (s.drop i) = strange 0 s) ?_ 0 ⟨by omega, by simp⟩
  rintro i ⟨hi, hr⟩
  refine And.intro (fun hl => ?_) (fun hl => ?_)
  · replace hl := of_decide_eq_true hl
    have hlt : i < s.length := by omega
    have hne : s.drop i ≠ [] := by intro e; have := congrArg List.length e; simp at this; omega
    refine Exists.intro _ (Exists.intro _ (And.intro (size_ev _ _ hs _ hlt) ?_))
    refine And.intro (fun h => ?_) (fun h => ?_)
    · replace h := of_decide_eq_true h
      rw [strange_bad i hne (by omega)] at hr
      show _ = _
      rw [← hr]; rfl
    · replace h := of_decide_eq_false h
      rw [strange_step i hne (by omega), List.drop_drop] at hr
      have hle := szL_le (s.drop i)
      rw [List.length_drop] at hle
      refine ⟨i + szL (s.drop i), ⟨by omega, hr⟩, by omega, ?_, rfl⟩
      rw [i64w (by omega)]; rfl
  · replace hl := of_decide_eq_false hl
    rw [List.drop_eq_nil_of_le (by omega), strange_nil] at hr
    show _ = _
    rw [← hr]; rfl
/-- A loop's head: what is known there. -/
structure Head (s : List UInt8) (i : Nat) (out : List Tok) : Prop where
  le : i ≤ s.length
  val : Val (s.drop i)
  sk : skipA false (s.drop i) = 0
  ol : out.length ≤ i
  eq : after out (toks i (s.drop i)) = toks 0 s
theorem Head.start {s : List UInt8} (h : Val s) : Head s (skipA false s) [] := by
  refine ⟨skipA_le _ _, val_skip _ s (Nat.le_refl _) h, skip_idem _ _ _ (Nat.le_refl _), Nat.zero_le _, ?_⟩
  rw [after_nil _ (toks_bad _ _ _ (Nat.le_refl _))]
  have := toks_skip 0 s
  rw [Nat.zero_add] at this
  exact this.symm
theorem Head.next {s : List UInt8} {i : Nat} {out : List Tok} (h : Head s i out) (hlt : i < s.length) (he : (tokL szL (s.drop i)).e = 0) :
    Head s (i + (tokL szL (s.drop i)).n + skipA false (s.drop (i + (tokL szL (s.drop i)).n))) (out ++ [⟨(tokL szL (s.drop i)).k, (tokL szL (s.drop i)).t, (tokL szL (s.drop i)).v, i, i + (tokL szL (s.drop i)).n⟩]) := by
  obtain ⟨h1, h2, h3, h4, h5⟩ := h
  obtain ⟨k1, k2, k3, k4⟩ := tokL_ok he
  rw [List.length_drop] at k2
  have hv : Val (s.drop (i + (tokL szL (s.drop i)).n)) := by rw [← List.drop_drop]; exact (val_low _ _ k4).1 h2
  have hsl := skipA_le false (s.drop (i + (tokL szL (s.drop i)).n))
  rw [List.length_drop] at hsl
  refine ⟨by omega, ?_, ?_, by simp; omega, ?_⟩
  · rw [← List.drop_drop]; exact val_skip _ _ (Nat.le_refl _) hv
  · rw [← List.drop_drop]; exact skip_idem _ _ _ (Nat.le_refl _)
  · have hne : (s.drop i).drop (skipA false (s.drop i)) ≠ [] := by rw [h3, List.drop_zero]; intro e; have := congrArg List.length e; simp at this; omega
    rw [toks_ok i hne (by rw [h3, List.drop_zero]; exact he), after_after] at h5
    simp only [h3, List.drop_zero, Nat.add_zero, Nat.zero_add, List.drop_drop] at h5
    rw [toks_skip, List.drop_drop] at h5
    exact h5
theorem Head.err {s : List UInt8} {i : Nat} {out : List Tok} (h : Head s i out) (hlt : i < s.length) (he : (tokL szL (s.drop i)).e ≠ 0) : toks 0 s = ([], ⟨(tokL szL (s.drop i)).e, i, i + (tokL szL (s.drop i)).n⟩) := by
  obtain ⟨h1, h2, h3, h4, h5⟩ := h
  have hne : (s.drop i).drop (skipA false (s.drop i)) ≠ [] := by rw [h3, List.drop_zero]; intro e; have := congrArg List.length e; simp at this; omega
  rw [← h5, toks_err i hne (by rw [h3, List.drop_zero]; exact he), h3]
  simp only [List.drop_zero, Nat.add_zero]
  unfold after
  rw [if_neg he]
theorem Head.fin {s : List UInt8} {i : Nat} {out : List Tok} (h : Head s i out) (hlt : ¬ i < s.length) : toks 0 s = (out ++ [⟨5, [], 0, s.length, s.length⟩], Dg.ok) := by
  obtain ⟨h1, h2, h3, h4, h5⟩ := h
  have hd : s.drop i = [] := List.drop_eq_nil_of_le (by omega)
  rw [← h5, hd, toks_end i (by simp)]
  have : i = s.length := by omega
  subst this
  simp [after, Dg.ok]
theorem szL_val {s : List UInt8} (h : s ≠ []) (hv : Val s) : szL s ≠ 0 := ((val_step h).1 hv).1
def dg0 : Ob := .box [.d (.int .i64 0), .d (.int .i64 0), .d (.int .i64 0)]
set_option maxHeartbeats 1000000 in
theorem tokens_ev (s : List UInt8) (hs : s.length ≤ maxLen) : evF (pgL fx) n_lex_Tokens [str s] H = some (toksR (lexT s), H) := by
  refine evF_wp t_lex_Tokens rfl rfl ?_ H
  refine And.intro (fun h => ?_) (fun h => ?_)
  · replace h := of_decide_eq_true h
    show _ = _
    unfold lexT
    rw [if_pos (by omega)]; rfl
  replace h := of_decide_eq_false h
  have hm : s.length ≤ 65536 := by omega
  have hL : lexT s = if 0 ≤ strange 0 s then ([], ⟨110, (strange 0 s).toNat, (strange 0 s).toNat + 1⟩) else toks 0 s := by unfold lexT; rw [if_neg (by omega)]
  have hg := strange_ge _ s 0 (Nat.le_refl _)
  refine Exists.intro _ (Exists.intro _ (And.intro (utf_ev _ _) ?_))
  refine And.intro (fun h2 => ?_) (fun h2 => ?_)
  · replace h2 := of_decide_eq_true h2
    show _ = _
    rw [hL, if_pos (by omega), i64w (by omega)]
    simp only [oneOf, toksR, dgD, List.map_nil, Int.natCast_add, Int.toNat_of_nonneg h2]; rfl
  replace h2 := of_decide_eq_false h2
  rw [if_neg (by omega)] at hL
  have hv : Val s := by unfold Val; omega
  refine Exists.intro _ (Exists.intro _ (And.intro (skip_ev _ _ hs 0 (by omega)) ?_))
  rw [hL]
  simp only [List.drop_zero, Nat.zero_add]
  refine wp_loop (α := Nat × List Tok) (fun p => s.length - p.1) (fun p => [(0, str s), (3, .ptr 0 0), (5, .row 1 p.2.length), (6, i64 p.1)]) (fun p => [dg0, .row 5 (p.2.map Tok.D)]) (fun p => Head s p.1 p.2) ?_ (skipA false s, []) (Head.start hv)
  rintro ⟨i, out⟩ hh
  have hle := hh.le
  have hol := hh.ol
  simp only at hh hle hol
  refine And.intro (fun hl => ?_) (fun hl => ?_)
  · replace hl := of_decide_eq_true hl
    have hlt : i < s.length := by omega
    have hne : s.drop i ≠ [] := by intro e; have := congrArg List.length e; simp at this; omega
    refine And.intro (by omega) ?_
    refine And.intro ⟨by omega, by omega⟩ ?_
    have hn := hh.next hlt
    have hx := hh.err hlt
    have ht : tokL wD (s.drop i) = tokL szL (s.drop i) := tokL_w _ (wD_eq _ hne (szL_val hne hh.val))
    have hk : (tokL szL (s.drop i)).e = 0 → 1 ≤ (tokL szL (s.drop i)).n ∧ (tokL szL (s.drop i)).n ≤ s.length - i := fun e => by
      obtain ⟨k1, k2, _⟩ := tokL_ok e
      rw [List.length_drop] at k2
      exact ⟨k1, k2⟩
    have hnb : (tokL szL (s.drop i)).n ≤ s.length - i := by
      have h1 := runL_le (s.drop i)
      have h2 := szL_le (s.drop i)
      rw [List.length_drop] at h1 h2
      by_cases e : (tokL szL (s.drop i)).e = 0
      · exact (hk e).2
      · unfold tokL at e ⊢
        repeat' split
        all_goals simp_all
        all_goals omega
    have tev : ∀ H : Hp, evF (pgL fx) n_lex_token [str (List.drop (Int.toNat (i : Int)) (List.take s.length s))] H = some (.tup [.d (tkD (tokL szL (s.drop i)).k (tokL szL (s.drop i)).t (tokL szL (s.drop i)).v 0 0), i64 (tokL szL (s.drop i)).n, i64 (tokL szL (s.drop i)).e], H) := by
      intro H
      rw [tail_eq, token_ev _ _ (by rw [List.length_drop]; omega)]
      unfold tokR
      rw [ht]
    generalize tokL szL (s.drop i) = T at *
    refine Exists.intro _ (Exists.intro _ (And.intro (tev _) ?_))
    refine And.intro (fun h3 => ?_) (fun h3 => ?_)
    · have he : T.e ≠ 0 := by simpa using h3
      show _ = _
      rw [hx he, i64w (by omega)]
      simp only [oneOf, toksR, dgD, List.map_nil, Int.natCast_add]
      try rfl
    · have he : T.e = 0 := by simpa using h3
      obtain ⟨k1, k2⟩ := hk he
      have hn := hn he
      have hsl := skipA_le false (s.drop (i + T.n))
      rw [List.length_drop] at hsl
      refine And.intro ⟨rfl, by decide⟩ ?_
      refine And.intro ⟨rfl, by simp, ⟨by simp; omega, by simp; omega⟩⟩ ?_
      have hw : IntKind.i64.wrap ((i : Int) + (T.n : Int)) = ((i + T.n : Nat) : Int) := by rw [i64w (by omega)]; omega
      refine Exists.intro _ (Exists.intro _ (And.intro (Eq.trans (congrArg (fun z => evF (pgL fx) n_lex_skip [str s, i64 z] _) hw) (skip_ev _ s hs (i + T.n) (by omega))) ?_))
      refine ⟨(_, _), hn, by simp only; omega, ?_, ?_⟩
      · simp
      · simp [Tok.D, tkD, dg0, hw]
  · replace hl := of_decide_eq_false hl
    have hf := hh.fin (by omega)
    refine And.intro ⟨rfl, by decide⟩ ?_
    refine And.intro ⟨rfl, by simp, ⟨by simp; omega, by simp; omega⟩⟩ ?_
    refine And.intro (by simp) ?_
    show _ = _
    rw [hf]
    simp [oneOf, toksR, dgD, Tok.D, tkD, Dg.ok]
end
end Go.Vm.Lex
