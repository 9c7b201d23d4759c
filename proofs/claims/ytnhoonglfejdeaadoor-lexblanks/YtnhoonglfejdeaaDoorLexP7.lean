import Derived.Test.YtnhoonglfejdeaaDoorLexP6
/- Two sources with blanks between. -/
namespace Go.Vm.Lex
theorem skipA_ten (b : Bool) (r : List UInt8) : skipA b (10 :: r) = skipA false r + 1 := by
  cases b
  · rw [skipA_f, if_pos (by decide)]
  · rw [skipA_t, if_pos rfl]
theorem skipA_cat (r : List UInt8) : ∀ (u : List UInt8) (b : Bool), skipA b (u ++ 10 :: r) = if skipA b u = u.length then u.length + skipA false (10 :: r) else skipA b u
  | [], b => by simp [skipA_nil, skipA_ten]
  | c :: u, false => by
    have ihf := skipA_cat r u false
    have iht := skipA_cat r u true
    rw [List.cons_append, skipA_f, skipA_f]
    by_cases h : wsB c = true
    · rw [if_pos h, if_pos h, ihf, List.length_cons]
      by_cases e : skipA false u = u.length
      · rw [if_pos e, if_pos (by omega)]; omega
      · rw [if_neg e, if_neg (by omega)]
    · rw [if_neg h, if_neg h]
      have hh : (c = 47 ∧ (u ++ 10 :: r).head? = some 47) ↔ (c = 47 ∧ u.head? = some 47) := by
        cases u with
        | nil => simp
        | cons d u => simp
      by_cases h2 : c = 47 ∧ u.head? = some 47
      · rw [if_pos (hh.2 h2), if_pos h2, iht, List.length_cons]
        by_cases e : skipA true u = u.length
        · rw [if_pos e, if_pos (by omega)]; omega
        · rw [if_neg e, if_neg (by omega)]
      · rw [if_neg (fun e => h2 (hh.1 e)), if_neg h2, if_neg (by simp)]
  | c :: u, true => by
    have ihf := skipA_cat r u false
    have iht := skipA_cat r u true
    rw [List.cons_append, skipA_t, skipA_t]
    by_cases h : c = 10
    · rw [if_pos h, if_pos h, ihf, List.length_cons]
      by_cases e : skipA false u = u.length
      · rw [if_pos e, if_pos (by omega)]; omega
      · rw [if_neg e, if_neg (by omega)]
    · rw [if_neg h, if_neg h, iht, List.length_cons]
      by_cases e : skipA true u = u.length
      · rw [if_pos e, if_pos (by omega)]; omega
      · rw [if_neg e, if_neg (by omega)]
/-- A byte that ends every token. -/
def Ends (d : UInt8) : Prop := isLD d = false ∧ ∀ c : UInt8, ¬ [c, d] ∈ twosL
theorem ends_ten : Ends 10 := ⟨by decide, by intro c; simp [twosL]⟩
theorem ends_blank : Ends 32 := ⟨by decide, by intro c; simp [twosL]⟩
theorem runL_cat {d : UInt8} (hd : Ends d) (r : List UInt8) : ∀ u : List UInt8, runL (u ++ d :: r) = runL u
  | [] => by rw [List.nil_append, runL_cons, hd.1]; rfl
  | c :: u => by rw [List.cons_append, runL_cons, runL_cons, runL_cat hd r u]
theorem signL_cat {d : UInt8} (hd : Ends d) (r : List UInt8) {u : List UInt8} (h : u ≠ []) : signL (u ++ d :: r) = signL u := by
  match u, h with
  | [c], _ =>
    unfold signL
    have : ¬ [c, d] ∈ twosL := hd.2 c
    simp [this, hd0]
  | c :: e :: u, _ =>
    unfold signL
    simp [hd0]
theorem tokL_cat {d : UInt8} (hd : Ends d) (r : List UInt8) {u : List UInt8} (h : u ≠ []) (hz : szL u ≠ 0) : tokL szL (u ++ d :: r) = tokL szL u := by
  have hh : hd0 (u ++ d :: r) = hd0 u := by cases u with
    | nil => exact absurd rfl h
    | cons c u => rfl
  unfold tokL
  rw [runL_cat hd r u, hh, List.take_append_of_le_length (runL_le u), signL_cat hd r h, szL_app hz]
theorem toks_cat (r : List UInt8) : ∀ (n p : Nat) (u : List UInt8), u.length ≤ n → Val u →
    ((toks p u).2.c = 0 → toks p (u ++ 10 :: r) = after (toks p u).1.dropLast (toks (p + u.length) (10 :: r))) ∧ ((toks p u).2.c ≠ 0 → (toks p (u ++ 10 :: r)).2.c ≠ 0) := by
  intro n
  induction n with
  | zero =>
    intro p u h _
    have : u = [] := List.length_eq_zero_iff.1 (by omega)
    subst this
    rw [toks_end p (by simp)]
    refine ⟨fun _ => ?_, fun h => absurd rfl h⟩
    simp only [List.nil_append, List.length_nil, Nat.add_zero, List.dropLast_singleton]
    rw [after_nil _ (toks_bad _ _ _ (Nat.le_refl _))]
  | succ n ih =>
    intro p u h hv
    have hsl := skipA_le false u
    have hcat := skipA_cat r u false
    by_cases h0 : u.drop (skipA false u) = []
    · have hk : skipA false u = u.length := by have := congrArg List.length h0; rw [List.length_drop] at this; simp at this; omega
      rw [if_pos hk] at hcat
      rw [toks_end p h0]
      refine ⟨fun _ => ?_, fun h => absurd rfl h⟩
      simp only [List.dropLast_singleton]
      rw [after_nil _ (toks_bad _ _ _ (Nat.le_refl _)), toks_skip p, hcat, toks_skip (p + u.length), Nat.add_assoc, List.drop_append]
      rw [List.drop_eq_nil_of_le (by omega), List.nil_append, Nat.add_sub_cancel_left]
    · have hk : skipA false u ≠ u.length := fun e => h0 (List.drop_eq_nil_of_le (by omega))
      rw [if_neg hk] at hcat
      have hv2 := val_skip _ u (Nat.le_refl _) hv
      have hz := (val_step h0).1 hv2
      have hda : (u ++ 10 :: r).drop (skipA false (u ++ 10 :: r)) = u.drop (skipA false u) ++ 10 :: r := by rw [hcat, List.drop_append_of_le_length hsl]
      have hne : (u ++ 10 :: r).drop (skipA false (u ++ 10 :: r)) ≠ [] := by rw [hda]; simp
      have htk : tokL szL ((u ++ 10 :: r).drop (skipA false (u ++ 10 :: r))) = tokL szL (u.drop (skipA false u)) := by rw [hda]; exact tokL_cat ends_ten r h0 hz.1
      by_cases he : (tokL szL (u.drop (skipA false u))).e = 0
      · obtain ⟨k1, k2, k3, k4⟩ := tokL_ok he
        rw [toks_ok p h0 he, toks_ok p hne (by rw [htk]; exact he), htk, hcat]
        generalize tokL szL (u.drop (skipA false u)) = T at *
        rw [List.length_drop] at k2
        have hdr : (u ++ 10 :: r).drop (skipA false u + T.n) = u.drop (skipA false u + T.n) ++ 10 :: r := List.drop_append_of_le_length (by omega)
        rw [hdr]
        have hv3 : Val (u.drop (skipA false u + T.n)) := by rw [← List.drop_drop]; exact (val_low _ _ k4).1 hv2
        obtain ⟨i1, i2⟩ := ih (p + (skipA false u + T.n)) (u.drop (skipA false u + T.n)) (by rw [List.length_drop]; omega) hv3
        have hlen : p + (skipA false u + T.n) + (u.drop (skipA false u + T.n)).length = p + u.length := by rw [List.length_drop]; omega
        rw [hlen] at i1
        constructor
        · intro hc
          have hcc : (toks (p + (skipA false u + T.n)) (u.drop (skipA false u + T.n))).2.c = 0 := by
            unfold after at hc
            split at hc
            · assumption
            · exact hc
          rw [i1 hcc, after_after]
          congr 1
          unfold after
          rw [if_pos hcc]
          have hne2 : (toks (p + (skipA false u + T.n)) (u.drop (skipA false u + T.n))).1 ≠ [] := by
            rw [toks] at hcc ⊢
            split
            · split
              · simp
              · rename_i h1 h2
                rw [dif_pos h1, if_neg h2] at hcc
                rcases h1 with h1 | h1
                · exact absurd h1 h2
                · exact absurd hcc h1
            · rename_i h1
              rw [dif_neg h1] at hcc
              unfold after at hcc ⊢
              split at hcc
              · rename_i h3; rw [if_pos h3]; simp
              · exact absurd hcc (by assumption)
          simp only
          rw [List.dropLast_append_of_ne_nil hne2]
        · intro hc
          have hcc : (toks (p + (skipA false u + T.n)) (u.drop (skipA false u + T.n))).2.c ≠ 0 := by
            unfold after at hc
            split at hc
            · rename_i hz0; exact absurd hz0 hc
            · exact hc
          have := i2 hcc
          unfold after
          rw [if_neg this]; exact this
      · rw [toks_err p h0 he, toks_err p hne (by rw [htk]; exact he), htk]
        exact ⟨fun hc => absurd hc he, fun _ => he⟩
def shTok (q : Nat) (t : Tok) : Tok := ⟨t.k, t.t, t.v, t.f + q, t.e + q⟩
theorem toks_shift (q : Nat) : ∀ (n p : Nat) (s : List UInt8), s.length ≤ n → (toks (p + q) s).1 = (toks p s).1.map (shTok q) ∧ (toks (p + q) s).2.c = (toks p s).2.c := by
  intro n
  induction n with
  | zero =>
    intro p s h
    have : s = [] := List.length_eq_zero_iff.1 (by omega)
    subst this
    rw [toks_end _ (by simp), toks_end _ (by simp)]
    exact ⟨by simp [shTok], rfl⟩
  | succ n ih =>
    intro p s h
    by_cases h0 : s.drop (skipA false s) = []
    · rw [toks_end _ h0, toks_end _ h0]
      refine ⟨?_, rfl⟩
      simp [shTok]; omega
    · by_cases he : (tokL szL (s.drop (skipA false s))).e = 0
      · have hd := toks_dec s (by simp [h0, he])
        rw [toks_ok _ h0 he, toks_ok _ h0 he]
        generalize tokL szL (s.drop (skipA false s)) = T at *
        have i := ih (p + (skipA false s + T.n)) (s.drop (skipA false s + T.n)) (by omega)
        rw [show p + q + (skipA false s + T.n) = p + (skipA false s + T.n) + q by omega]
        unfold after
        rw [i.2]
        split
        · refine ⟨?_, i.2⟩
          simp only [List.map_append, i.1, List.map_cons, List.map_nil, shTok]
          congr 2
          simp; omega
        · exact ⟨rfl, i.2⟩
      · rw [toks_err _ h0 he, toks_err _ h0 he]
        exact ⟨rfl, rfl⟩
def midL : List UInt8 := [10, 47, 47, 32, 120, 10, 32, 9]
theorem skip_mid (b : List UInt8) : skipA false (midL ++ b) = 8 + skipA false b := by
  show skipA false (10 :: 47 :: 47 :: 32 :: 120 :: 10 :: 32 :: 9 :: b) = _
  rw [skipA_ten, skipA_f, if_neg (by decide), if_pos ⟨rfl, rfl⟩, skipA_t, if_neg (by decide), skipA_t, if_neg (by decide), skipA_t, if_neg (by decide), skipA_ten, skipA_f, if_pos (by decide), skipA_f, if_pos (by decide)]
  omega
theorem toks_mid (q : Nat) (b : List UInt8) : toks q (midL ++ b) = toks (q + 8) b := by
  rw [toks_skip q, skip_mid, toks_skip (q + 8), Nat.add_assoc, List.drop_append]
  rw [List.drop_eq_nil_of_le (by simp [midL]), List.nil_append]
  congr 2
  simp [midL]
theorem val_mid (b : List UInt8) : Val (midL ++ b) ↔ Val b := by
  have h : ∀ c ∈ (midL ++ b).take 8, c.toNat < 128 := by
    rw [List.take_append_of_le_length (by decide)]
    decide
  rw [val_low _ 8 h, List.drop_append]
  rw [List.drop_eq_nil_of_le (by decide), List.nil_append]
  simp [midL]
theorem val_cat (a b : List UInt8) : Val (a ++ midL ++ b) ↔ Val a ∧ Val b := by
  rw [List.append_assoc]
  constructor
  · intro h
    have h1 := val_split _ _ a.length (Nat.le_refl _) h (.inr ⟨10, by rw [List.getElem?_append_right (Nat.le_refl _), Nat.sub_self]; rfl, by decide⟩)
    rw [List.take_left, List.drop_left] at h1
    exact ⟨h1.1, (val_mid b).1 h1.2⟩
  · intro h
    exact val_app _ _ _ (Nat.le_refl _) h.1 ((val_mid b).2 h.2)
theorem lexT_inval {s : List UInt8} (h : ¬ Val s) : (lexT s).2.c ≠ 0 := by
  unfold lexT
  split
  · simp
  · have := strange_ge _ s 0 (Nat.le_refl _)
    rw [if_pos (by unfold Val at h; omega)]
    simp
theorem blanks (a b : List UInt8) (hl : a.length + b.length ≤ 60000) : ((lexT a).2.c ≠ 0 → (lexT (a ++ midL ++ b)).2.c ≠ 0) ∧ ((lexT b).2.c ≠ 0 → (lexT (a ++ midL ++ b)).2.c ≠ 0) ∧
    ((lexT a).2.c = 0 → (lexT b).2.c = 0 → lexT (a ++ midL ++ b) = ((lexT a).1.dropLast ++ (lexT b).1.map (shTok (a.length + 8)), Dg.ok)) := by
  have hz : (a ++ midL ++ b).length ≤ 65536 := by simp [midL]; omega
  by_cases va : Val a
  · by_cases vb : Val b
    · have vz := (val_cat a b).2 ⟨va, vb⟩
      rw [lexT_val hz vz, lexT_val (by omega) va, lexT_val (by omega) vb]
      have hc := toks_cat ([47, 47, 32, 120, 10, 32, 9] ++ b) _ 0 a (Nat.le_refl _) va
      have e1 : a ++ 10 :: ([47, 47, 32, 120, 10, 32, 9] ++ b) = a ++ midL ++ b := by rw [List.append_assoc]; rfl
      have e2 : (10 : UInt8) :: ([47, 47, 32, 120, 10, 32, 9] ++ b) = midL ++ b := rfl
      rw [e1, e2, toks_mid, Nat.zero_add] at hc
      have hs := toks_shift (a.length + 8) _ 0 b (Nat.le_refl _)
      rw [Nat.zero_add] at hs
      refine ⟨hc.2, fun h => ?_, fun ha hb => ?_⟩
      · by_cases ha : (toks 0 a).2.c = 0
        · rw [hc.1 ha]
          unfold after
          rw [if_neg (by rw [hs.2]; exact h)]
          rw [hs.2]; exact h
        · exact hc.2 ha
      · rw [hc.1 ha]
        unfold after
        rw [if_pos (by rw [hs.2]; exact hb), hs.1]
        have hok : ∀ (n p : Nat) (s : List UInt8), s.length ≤ n → (toks p s).2.c = 0 → (toks p s).2 = Dg.ok := by
          intro n
          induction n with
          | zero =>
            intro p s h _
            have : s = [] := List.length_eq_zero_iff.1 (by omega)
            subst this
            rw [toks_end _ (by simp)]
          | succ n ih =>
            intro p s h hcc
            by_cases h0 : s.drop (skipA false s) = []
            · rw [toks_end _ h0]
            · by_cases he : (tokL szL (s.drop (skipA false s))).e = 0
              · have hd := toks_dec s (by simp [h0, he])
                rw [toks_ok _ h0 he] at hcc ⊢
                unfold after at hcc ⊢
                split at hcc
                · rename_i h3; rw [if_pos h3]; exact ih _ _ (by omega) h3
                · exact absurd hcc (by assumption)
              · rw [toks_err _ h0 he] at hcc; exact absurd hcc he
        rw [hok _ _ b (Nat.le_refl _) (by rw [hs.2]; exact hb)]
    · have vz : ¬ Val (a ++ midL ++ b) := fun h => vb ((val_cat a b).1 h).2
      exact ⟨fun _ => lexT_inval vz, fun _ => lexT_inval vz, fun _ h => absurd h (lexT_inval vb)⟩
  · have vz : ¬ Val (a ++ midL ++ b) := fun h => va ((val_cat a b).1 h).1
    exact ⟨fun _ => lexT_inval vz, fun _ => lexT_inval vz, fun h _ => absurd h (lexT_inval va)⟩
end Go.Vm.Lex
