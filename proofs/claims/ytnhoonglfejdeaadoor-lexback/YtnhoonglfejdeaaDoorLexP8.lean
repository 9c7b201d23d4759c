import Derived.Test.YtnhoonglfejdeaaDoorLexP5
import Derived.Test.YtnhoonglfejdeaaDoorLexW13
/- Tokens are the source where they stand. -/
namespace Go.Vm.Lex
theorem skip_pre : ∀ (u : List UInt8) (b : Bool), skipA b (u.take (skipA b u)) = skipA b u
  | [], b => by cases b <;> rfl
  | c :: r, false => by
    rw [skipA_f]
    by_cases h : wsB c = true
    · rw [if_pos h, List.take_succ_cons, skipA_f, if_pos h, skip_pre r false]
    · rw [if_neg h]
      by_cases h2 : c = 47 ∧ r.head? = some 47
      · rw [if_pos h2, List.take_succ_cons, skipA_f, if_neg h]
        have hh : (r.take (skipA true r)).head? = some 47 := by
          cases r with
          | nil => simp at h2
          | cons d r =>
            have hd : d = 47 := by simpa using h2.2
            subst hd
            rw [skipA_t, if_neg (by decide), List.take_succ_cons]; rfl
        rw [if_pos ⟨h2.1, hh⟩, skip_pre r true]
      · rw [if_neg h2]; rfl
  | c :: r, true => by
    rw [skipA_t]
    by_cases h : c = 10
    · rw [if_pos h, List.take_succ_cons, skipA_t, if_pos h, skip_pre r false]
    · rw [if_neg h, List.take_succ_cons, skipA_t, if_neg h, skip_pre r true]
theorem lexT_val {s : List UInt8} (h : s.length ≤ 65536) (hv : Val s) : lexT s = toks 0 s := by
  unfold lexT
  rw [if_neg (by omega), if_neg (by unfold Val at hv; omega)]
def Gap (s : List UInt8) (a f : Nat) : Prop := lexT ((s.drop a).take (f - a)) = ([⟨5, [], 0, f - a, f - a⟩], Dg.ok)
def Chain (s : List UInt8) : Nat → List Tok → Prop
  | a, [] => a = s.length
  | a, x :: r => a ≤ x.f ∧ x.f ≤ x.e ∧ x.e ≤ s.length ∧ (s.drop x.f).take (x.e - x.f) = x.t ∧ (x.k = 5 ↔ r = []) ∧ Gap s a x.f ∧ Chain s x.e r
theorem gap_of {s : List UInt8} {a : Nat} (hs : s.length ≤ 65536) (hv : Val (s.drop a)) (hb : (s.drop a).length ≤ skipA false (s.drop a) ∨ ∃ c, (s.drop a)[skipA false (s.drop a)]? = some c ∧ c.toNat < 128) : Gap s a (a + skipA false (s.drop a)) := by
  unfold Gap
  rw [Nat.add_sub_cancel_left]
  have h1 := (val_split _ (s.drop a) _ (Nat.le_refl _) hv hb).1
  have hl := skipA_le false (s.drop a)
  have hle : ((s.drop a).take (skipA false (s.drop a))).length = skipA false (s.drop a) := by rw [List.length_take]; omega
  rw [lexT_val (by rw [hle]; rw [List.length_drop] at hl; omega) h1, toks_end 0 (by rw [skip_pre]; exact List.drop_eq_nil_of_le (by omega)), hle, Nat.zero_add]
theorem tokL_kind {w : List UInt8 → Nat} {s : List UInt8} (h : (tokL w s).e = 0) : (tokL w s).k ≠ 5 := by
  unfold tokL at h ⊢
  repeat' split
  all_goals simp_all
theorem chain_toks {s : List UInt8} (hs : s.length ≤ 65536) : ∀ (n a : Nat), s.length - a ≤ n → a ≤ s.length → Val (s.drop a) → (toks a (s.drop a)).2.c = 0 → Chain s a (toks a (s.drop a)).1 ∧ (toks a (s.drop a)).2 = Dg.ok ∧ (toks a (s.drop a)).1 ≠ [] := by
  intro n
  induction n with
  | zero =>
    intro a h ha hv hc
    have e : s.drop a = [] := List.drop_eq_nil_of_le (by omega)
    rw [toks_end a (by rw [e]; rfl)] at hc ⊢
    have hl : a + (s.drop a).length = s.length := by rw [List.length_drop]; omega
    have ha' : a = s.length := by omega
    refine ⟨?_, rfl, by simp⟩
    simp only [Chain, hl]
    refine ⟨by omega, by omega, by omega, by simp, by simp, ?_, trivial⟩
    have := gap_of hs hv (.inl (by rw [e]; simp))
    rw [e, skipA_nil, Nat.add_zero, ha'] at this
    rw [ha']; exact this
  | succ n ih =>
    intro a h ha hv hc
    have hsl := skipA_le false (s.drop a)
    by_cases h0 : (s.drop a).drop (skipA false (s.drop a)) = []
    · rw [toks_end a h0] at hc ⊢
      have hl : a + (s.drop a).length = s.length := by rw [List.length_drop]; omega
      have hk : skipA false (s.drop a) = (s.drop a).length := by
        have := congrArg List.length h0; rw [List.length_drop] at this; simp at this; rw [List.length_drop] at hsl ⊢; omega
      refine ⟨?_, rfl, by simp⟩
      simp only [Chain, hl]
      refine ⟨by omega, by omega, by omega, by simp, by simp, ?_, trivial⟩
      have := gap_of hs hv (.inl (by omega))
      rw [hk, hl] at this; exact this
    · by_cases he : (tokL szL ((s.drop a).drop (skipA false (s.drop a)))).e = 0
      · obtain ⟨k1, k2, k3, k4⟩ := tokL_ok he
        have hkd := tokL_kind he
        rw [toks_ok a h0 he] at hc ⊢
        simp only [List.drop_drop] at hc k1 k2 k3 k4 hkd ⊢
        generalize hT : tokL szL (s.drop (a + skipA false (s.drop a))) = T at *
        generalize hK : skipA false (s.drop a) = K at *
        rw [List.length_drop] at k2 hsl
        have hv2 : Val (s.drop (a + (K + T.n))) := by
          have := val_skip _ (s.drop a) (Nat.le_refl _) hv
          rw [hK, List.drop_drop] at this
          rw [show a + (K + T.n) = (a + K) + T.n by omega, ← List.drop_drop]
          exact (val_low _ _ k4).1 this
        have hcc : (toks (a + (K + T.n)) (s.drop (a + (K + T.n)))).2.c = 0 := by
          unfold after at hc
          split at hc
          · assumption
          · exact hc
        obtain ⟨i1, i2, i3⟩ := ih (a + (K + T.n)) (by omega) (by omega) hv2 hcc
        unfold after
        rw [if_pos hcc]
        refine ⟨?_, i2, by simp⟩
        simp only [List.singleton_append, Chain]
        have hb : (s.drop a)[K]? = s[a + K]? := List.getElem?_drop ..
        refine ⟨by omega, by omega, by omega, ?_, ?_, ?_, ?_⟩
        · rw [Nat.add_sub_cancel_left, k3]
        · exact ⟨fun e => absurd e hkd, fun e => absurd e i3⟩
        · have := gap_of hs hv (.inr ?_)
          · rw [hK] at this; exact this
          · rw [hK, hb]
            have hlt : a + K < s.length := by omega
            refine ⟨s[a + K], List.getElem?_eq_getElem hlt, k4 _ ?_⟩
            rw [List.mem_iff_getElem?]
            exact ⟨0, by rw [List.getElem?_take, if_pos (by omega), List.getElem?_drop, Nat.add_zero, List.getElem?_eq_getElem hlt]⟩
        · rw [show a + K + T.n = a + (K + T.n) by omega]; exact i1
      · rw [toks_err a h0 he] at hc; exact absurd hc he
theorem tokL_nb (s : List UInt8) : (tokL szL s).n ≤ s.length := by
  have h1 := runL_le s
  have h2 := szL_le s
  by_cases e : (tokL szL s).e = 0
  · exact (tokL_ok e).2.1
  · unfold tokL at e ⊢
    repeat' split
    all_goals simp_all
theorem toks_places : ∀ (n a : Nat) (s : List UInt8), s.length ≤ n → (toks a s).2.c ≠ 0 → a ≤ (toks a s).2.f ∧ (toks a s).2.f ≤ (toks a s).2.e ∧ (toks a s).2.e ≤ a + s.length := by
  intro n
  induction n with
  | zero =>
    intro a s h hc
    have : s = [] := List.length_eq_zero_iff.1 (by omega)
    subst this
    rw [toks_end a (by simp)] at hc; exact absurd rfl hc
  | succ n ih =>
    intro a s h hc
    have hsl := skipA_le false s
    have hnb := tokL_nb (s.drop (skipA false s))
    rw [List.length_drop] at hnb
    by_cases h0 : s.drop (skipA false s) = []
    · rw [toks_end a h0] at hc; exact absurd rfl hc
    · by_cases he : (tokL szL (s.drop (skipA false s))).e = 0
      · have hd := toks_dec s (by simp [h0, he])
        rw [toks_ok a h0 he] at hc ⊢
        generalize (tokL szL (s.drop (skipA false s))) = T at *
        have hcc : (toks (a + (skipA false s + T.n)) (s.drop (skipA false s + T.n))).2.c ≠ 0 := by
          unfold after at hc
          split at hc
          · rename_i hz; exact absurd hz hc
          · exact hc
        have i := ih (a + (skipA false s + T.n)) (s.drop (skipA false s + T.n)) (by omega) hcc
        unfold after
        rw [if_neg hcc]
        rw [List.length_drop] at i
        simp only
        omega
      · rw [toks_err a h0 he]
        simp only
        omega
theorem lexT_places (s : List UInt8) (h : (lexT s).2.c ≠ 0) : (lexT s).1 = [] ∧ (lexT s).2.f ≤ (lexT s).2.e ∧ (lexT s).2.e ≤ s.length := by
  unfold lexT at h ⊢
  split
  · simp
  · rename_i h1
    rw [if_neg h1] at h
    split
    · rename_i h2
      have := strange_ge _ s 0 (Nat.le_refl _)
      refine ⟨rfl, by simp, ?_⟩
      simp only
      omega
    · rename_i h2
      rw [if_neg h2] at h
      have := toks_places _ 0 s (Nat.le_refl _) h
      exact ⟨toks_bad _ _ _ (Nat.le_refl _) h, this.2.1, by omega⟩
theorem lexT_chain (s : List UInt8) (h : (lexT s).2.c = 0) : s.length ≤ 65536 ∧ Val s ∧ lexT s = toks 0 s ∧ Chain s 0 (lexT s).1 ∧ (lexT s).1 ≠ [] ∧ (lexT s).2 = Dg.ok := by
  unfold lexT at h
  split at h
  · cases h
  · rename_i h1
    split at h
    · cases h
    · rename_i h2
      have hv : Val s := by have := strange_ge _ s 0 (Nat.le_refl _); unfold Val; omega
      have e := lexT_val (by omega : s.length ≤ 65536) hv
      have := chain_toks (by omega : s.length ≤ 65536) _ 0 (Nat.le_refl _) (Nat.zero_le _) (by rw [List.drop_zero]; exact hv) (by rw [List.drop_zero]; exact h)
      rw [List.drop_zero] at this
      rw [e]
      exact ⟨by omega, hv, rfl, this.1, this.2.2, this.2.1⟩
end Go.Vm.Lex
/- Two sources with blanks between. -/
namespace Go.Vm.Lex
theorem skipA_ten (b : Bool) (r : List UInt8) : skipA b (10 :: r) = skipA false r + 1 := by
  cases b
  · rw [skipA_f, if_pos (by decide)]
  · rw [skipA_t, if_pos rfl]
theorem skipA_cat (r : List UInt8) : ∀ (u : List UInt8) (b : Bool), skipA b (u ++ 10 :: r) = if skipA b u = u.length then u.length + skipA false (10 :: r) else skipA b u
  | [], b => by simp [skipA_nil, skipA_ten]
  | c :: u, false => by
    have ihf := skipA_cat r u false
    have iht := skipA_cat r u true
    rw [List.cons_append, skipA_f, skipA_f]
    by_cases h : wsB c = true
    · rw [if_pos h, if_pos h, ihf, List.length_cons]
      by_cases e : skipA false u = u.length
      · rw [if_pos e, if_pos (by omega)]; omega
      · rw [if_neg e, if_neg (by omega)]
    · rw [if_neg h, if_neg h]
      have hh : (c = 47 ∧ (u ++ 10 :: r).head? = some 47) ↔ (c = 47 ∧ u.head? = some 47) := by
        cases u with
        | nil => simp
        | cons d u => simp
      by_cases h2 : c = 47 ∧ u.head? = some 47
      · rw [if_pos (hh.2 h2), if_pos h2, iht, List.length_cons]
        by_cases e : skipA true u = u.length
        · rw [if_pos e, if_pos (by omega)]; omega
        · rw [if_neg e, if_neg (by omega)]
      · rw [if_neg (fun e => h2 (hh.1 e)), if_neg h2, if_neg (by simp)]
  | c :: u, true => by
    have ihf := skipA_cat r u false
    have iht := skipA_cat r u true
    rw [List.cons_append, skipA_t, skipA_t]
    by_cases h : c = 10
    · rw [if_pos h, if_pos h, ihf, List.length_cons]
      by_cases e : skipA false u = u.length
      · rw [if_pos e, if_pos (by omega)]; omega
      · rw [if_neg e, if_neg (by omega)]
    · rw [if_neg h, if_neg h, iht, List.length_cons]
      by_cases e : skipA true u = u.length
      · rw [if_pos e, if_pos (by omega)]; omega
      · rw [if_neg e, if_neg (by omega)]
/-- A byte that ends every token. -/
def Ends (d : UInt8) : Prop := isLD d = false ∧ ∀ c : UInt8, ¬ [c, d] ∈ twosL
theorem ends_ten : Ends 10 := ⟨by decide, by intro c; simp [twosL]⟩
theorem ends_blank : Ends 32 := ⟨by decide, by intro c; simp [twosL]⟩
theorem runL_cat {d : UInt8} (hd : Ends d) (r : List UInt8) : ∀ u : List UInt8, runL (u ++ d :: r) = runL u
  | [] => by rw [List.nil_append, runL_cons, hd.1]; rfl
  | c :: u => by rw [List.cons_append, runL_cons, runL_cons, runL_cat hd r u]
theorem signL_cat {d : UInt8} (hd : Ends d) (r : List UInt8) {u : List UInt8} (h : u ≠ []) : signL (u ++ d :: r) = signL u := by
  match u, h with
  | [c], _ =>
    unfold signL
    have : ¬ [c, d] ∈ twosL := hd.2 c
    simp [this, hd0]
  | c :: e :: u, _ =>
    unfold signL
    simp [hd0]
theorem tokL_cat {d : UInt8} (hd : Ends d) (r : List UInt8) {u : List UInt8} (h : u ≠ []) (hz : szL u ≠ 0) : tokL szL (u ++ d :: r) = tokL szL u := by
  have hh : hd0 (u ++ d :: r) = hd0 u := by cases u with
    | nil => exact absurd rfl h
    | cons c u => rfl
  unfold tokL
  rw [runL_cat hd r u, hh, List.take_append_of_le_length (runL_le u), signL_cat hd r h, szL_app hz]
theorem toks_cat (r : List UInt8) : ∀ (n p : Nat) (u : List UInt8), u.length ≤ n → Val u →
    ((toks p u).2.c = 0 → toks p (u ++ 10 :: r) = after (toks p u).1.dropLast (toks (p + u.length) (10 :: r))) ∧ ((toks p u).2.c ≠ 0 → (toks p (u ++ 10 :: r)).2.c ≠ 0) := by
  intro n
  induction n with
  | zero =>
    intro p u h _
    have : u = [] := List.length_eq_zero_iff.1 (by omega)
    subst this
    rw [toks_end p (by simp)]
    refine ⟨fun _ => ?_, fun h => absurd rfl h⟩
    simp only [List.nil_append, List.length_nil, Nat.add_zero, List.dropLast_singleton]
    rw [after_nil _ (toks_bad _ _ _ (Nat.le_refl _))]
  | succ n ih =>
    intro p u h hv
    have hsl := skipA_le false u
    have hcat := skipA_cat r u false
    by_cases h0 : u.drop (skipA false u) = []
    · have hk : skipA false u = u.length := by have := congrArg List.length h0; rw [List.length_drop] at this; simp at this; omega
      rw [if_pos hk] at hcat
      rw [toks_end p h0]
      refine ⟨fun _ => ?_, fun h => absurd rfl h⟩
      simp only [List.dropLast_singleton]
      rw [after_nil _ (toks_bad _ _ _ (Nat.le_refl _)), toks_skip p, hcat, toks_skip (p + u.length), Nat.add_assoc, List.drop_append]
      rw [List.drop_eq_nil_of_le (by omega), List.nil_append, Nat.add_sub_cancel_left]
    · have hk : skipA false u ≠ u.length := fun e => h0 (List.drop_eq_nil_of_le (by omega))
      rw [if_neg hk] at hcat
      have hv2 := val_skip _ u (Nat.le_refl _) hv
      have hz := (val_step h0).1 hv2
      have hda : (u ++ 10 :: r).drop (skipA false (u ++ 10 :: r)) = u.drop (skipA false u) ++ 10 :: r := by rw [hcat, List.drop_append_of_le_length hsl]
      have hne : (u ++ 10 :: r).drop (skipA false (u ++ 10 :: r)) ≠ [] := by rw [hda]; simp
      have htk : tokL szL ((u ++ 10 :: r).drop (skipA false (u ++ 10 :: r))) = tokL szL (u.drop (skipA false u)) := by rw [hda]; exact tokL_cat ends_ten r h0 hz.1
      by_cases he : (tokL szL (u.drop (skipA false u))).e = 0
      · obtain ⟨k1, k2, k3, k4⟩ := tokL_ok he
        rw [toks_ok p h0 he, toks_ok p hne (by rw [htk]; exact he), htk, hcat]
        generalize tokL szL (u.drop (skipA false u)) = T at *
        rw [List.length_drop] at k2
        have hdr : (u ++ 10 :: r).drop (skipA false u + T.n) = u.drop (skipA false u + T.n) ++ 10 :: r := List.drop_append_of_le_length (by omega)
        rw [hdr]
        have hv3 : Val (u.drop (skipA false u + T.n)) := by rw [← List.drop_drop]; exact (val_low _ _ k4).1 hv2
        obtain ⟨i1, i2⟩ := ih (p + (skipA false u + T.n)) (u.drop (skipA false u + T.n)) (by rw [List.length_drop]; omega) hv3
        have hlen : p + (skipA false u + T.n) + (u.drop (skipA false u + T.n)).length = p + u.length := by rw [List.length_drop]; omega
        rw [hlen] at i1
        constructor
        · intro hc
          have hcc : (toks (p + (skipA false u + T.n)) (u.drop (skipA false u + T.n))).2.c = 0 := by
            unfold after at hc
            split at hc
            · assumption
            · exact hc
          rw [i1 hcc, after_after]
          congr 1
          unfold after
          rw [if_pos hcc]
          have hne2 : (toks (p + (skipA false u + T.n)) (u.drop (skipA false u + T.n))).1 ≠ [] := by
            rw [toks] at hcc ⊢
            split
            · split
              · simp
              · rename_i h1 h2
                rw [dif_pos h1, if_neg h2] at hcc
                rcases h1 with h1 | h1
                · exact absurd h1 h2
                · exact absurd hcc h1
            · rename_i h1
              rw [dif_neg h1] at hcc
              unfold after at hcc ⊢
              split at hcc
              · rename_i h3; rw [if_pos h3]; simp
              · exact absurd hcc (by assumption)
          simp only
          rw [List.dropLast_append_of_ne_nil hne2]
        · intro hc
          have hcc : (toks (p + (skipA false u + T.n)) (u.drop (skipA false u + T.n))).2.c ≠ 0 := by
            unfold after at hc
            split at hc
            · rename_i hz0; exact absurd hz0 hc
            · exact hc
          have := i2 hcc
          unfold after
          rw [if_neg this]; exact this
      · rw [toks_err p h0 he, toks_err p hne (by rw [htk]; exact he), htk]
        exact ⟨fun hc => absurd hc he, fun _ => he⟩
def shTok (q : Nat) (t : Tok) : Tok := ⟨t.k, t.t, t.v, t.f + q, t.e + q⟩
theorem toks_shift (q : Nat) : ∀ (n p : Nat) (s : List UInt8), s.length ≤ n → (toks (p + q) s).1 = (toks p s).1.map (shTok q) ∧ (toks (p + q) s).2.c = (toks p s).2.c := by
  intro n
  induction n with
  | zero =>
    intro p s h
    have : s = [] := List.length_eq_zero_iff.1 (by omega)
    subst this
    rw [toks_end _ (by simp), toks_end _ (by simp)]
    exact ⟨by simp [shTok], rfl⟩
  | succ n ih =>
    intro p s h
    by_cases h0 : s.drop (skipA false s) = []
    · rw [toks_end _ h0, toks_end _ h0]
      refine ⟨?_, rfl⟩
      simp [shTok]; omega
    · by_cases he : (tokL szL (s.drop (skipA false s))).e = 0
      · have hd := toks_dec s (by simp [h0, he])
        rw [toks_ok _ h0 he, toks_ok _ h0 he]
        generalize tokL szL (s.drop (skipA false s)) = T at *
        have i := ih (p + (skipA false s + T.n)) (s.drop (skipA false s + T.n)) (by omega)
        rw [show p + q + (skipA false s + T.n) = p + (skipA false s + T.n) + q by omega]
        unfold after
        rw [i.2]
        split
        · refine ⟨?_, i.2⟩
          simp only [List.map_append, i.1, List.map_cons, List.map_nil, shTok]
          congr 2
          simp; omega
        · exact ⟨rfl, i.2⟩
      · rw [toks_err _ h0 he, toks_err _ h0 he]
        exact ⟨rfl, rfl⟩
def midL : List UInt8 := [10, 47, 47, 32, 120, 10, 32, 9]
theorem skip_mid (b : List UInt8) : skipA false (midL ++ b) = 8 + skipA false b := by
  show skipA false (10 :: 47 :: 47 :: 32 :: 120 :: 10 :: 32 :: 9 :: b) = _
  rw [skipA_ten, skipA_f, if_neg (by decide), if_pos ⟨rfl, rfl⟩, skipA_t, if_neg (by decide), skipA_t, if_neg (by decide), skipA_t, if_neg (by decide), skipA_ten, skipA_f, if_pos (by decide), skipA_f, if_pos (by decide)]
  omega
theorem toks_mid (q : Nat) (b : List UInt8) : toks q (midL ++ b) = toks (q + 8) b := by
  rw [toks_skip q, skip_mid, toks_skip (q + 8), Nat.add_assoc, List.drop_append]
  rw [List.drop_eq_nil_of_le (by simp [midL]), List.nil_append]
  congr 2
  simp [midL]
theorem val_mid (b : List UInt8) : Val (midL ++ b) ↔ Val b := by
  have h : ∀ c ∈ (midL ++ b).take 8, c.toNat < 128 := by
    rw [List.take_append_of_le_length (by decide)]
    decide
  rw [val_low _ 8 h, List.drop_append]
  rw [List.drop_eq_nil_of_le (by decide), List.nil_append]
  simp [midL]
theorem val_cat (a b : List UInt8) : Val (a ++ midL ++ b) ↔ Val a ∧ Val b := by
  rw [List.append_assoc]
  constructor
  · intro h
    have h1 := val_split _ _ a.length (Nat.le_refl _) h (.inr ⟨10, by rw [List.getElem?_append_right (Nat.le_refl _), Nat.sub_self]; rfl, by decide⟩)
    rw [List.take_left, List.drop_left] at h1
    exact ⟨h1.1, (val_mid b).1 h1.2⟩
  · intro h
    exact val_app _ _ _ (Nat.le_refl _) h.1 ((val_mid b).2 h.2)
theorem lexT_inval {s : List UInt8} (h : ¬ Val s) : (lexT s).2.c ≠ 0 := by
  unfold lexT
  split
  · simp
  · have := strange_ge _ s 0 (Nat.le_refl _)
    rw [if_pos (by unfold Val at h; omega)]
    simp
theorem blanks (a b : List UInt8) (hl : a.length + b.length ≤ 60000) : ((lexT a).2.c ≠ 0 → (lexT (a ++ midL ++ b)).2.c ≠ 0) ∧ ((lexT b).2.c ≠ 0 → (lexT (a ++ midL ++ b)).2.c ≠ 0) ∧
    ((lexT a).2.c = 0 → (lexT b).2.c = 0 → lexT (a ++ midL ++ b) = ((lexT a).1.dropLast ++ (lexT b).1.map (shTok (a.length + 8)), Dg.ok)) := by
  have hz : (a ++ midL ++ b).length ≤ 65536 := by simp [midL]; omega
  by_cases va : Val a
  · by_cases vb : Val b
    · have vz := (val_cat a b).2 ⟨va, vb⟩
      rw [lexT_val hz vz, lexT_val (by omega) va, lexT_val (by omega) vb]
      have hc := toks_cat ([47, 47, 32, 120, 10, 32, 9] ++ b) _ 0 a (Nat.le_refl _) va
      have e1 : a ++ 10 :: ([47, 47, 32, 120, 10, 32, 9] ++ b) = a ++ midL ++ b := by rw [List.append_assoc]; rfl
      have e2 : (10 : UInt8) :: ([47, 47, 32, 120, 10, 32, 9] ++ b) = midL ++ b := rfl
      rw [e1, e2, toks_mid, Nat.zero_add] at hc
      have hs := toks_shift (a.length + 8) _ 0 b (Nat.le_refl _)
      rw [Nat.zero_add] at hs
      refine ⟨hc.2, fun h => ?_, fun ha hb => ?_⟩
      · by_cases ha : (toks 0 a).2.c = 0
        · rw [hc.1 ha]
          unfold after
          rw [if_neg (by rw [hs.2]; exact h)]
          rw [hs.2]; exact h
        · exact hc.2 ha
      · rw [hc.1 ha]
        unfold after
        rw [if_pos (by rw [hs.2]; exact hb), hs.1]
        have hok : ∀ (n p : Nat) (s : List UInt8), s.length ≤ n → (toks p s).2.c = 0 → (toks p s).2 = Dg.ok := by
          intro n
          induction n with
          | zero =>
            intro p s h _
            have : s = [] := List.length_eq_zero_iff.1 (by omega)
            subst this
            rw [toks_end _ (by simp)]
          | succ n ih =>
            intro p s h hcc
            by_cases h0 : s.drop (skipA false s) = []
            · rw [toks_end _ h0]
            · by_cases he : (tokL szL (s.drop (skipA false s))).e = 0
              · have hd := toks_dec s (by simp [h0, he])
                rw [toks_ok _ h0 he] at hcc ⊢
                unfold after at hcc ⊢
                split at hcc
                · rename_i h3; rw [if_pos h3]; exact ih _ _ (by omega) h3
                · exact absurd hcc (by assumption)
              · rw [toks_err _ h0 he] at hcc; exact absurd hcc he
        rw [hok _ _ b (Nat.le_refl _) (by rw [hs.2]; exact hb)]
    · have vz : ¬ Val (a ++ midL ++ b) := fun h => vb ((val_cat a b).1 h).2
      exact ⟨fun _ => lexT_inval vz, fun _ => lexT_inval vz, fun _ h => absurd h (lexT_inval vb)⟩
  · have vz : ¬ Val (a ++ midL ++ b) := fun h => va ((val_cat a b).1 h).1
    exact ⟨fun _ => lexT_inval vz, fun _ => lexT_inval vz, fun h _ => absurd h (lexT_inval va)⟩
end Go.Vm.Lex
/- What is printed is cut into the same tokens. -/
namespace Go.Vm.Lex
theorem dec_digits (u : Nat) : (Lib.decDigits u).all isD = true ∧ valD (Lib.decDigits u) = u ∧ Lib.decDigits u ≠ [] := by
  induction u using Nat.strongRecOn with
  | _ u ih =>
    have hb : ∀ k, k < 10 → isD (UInt8.ofNat (48 + k)) = true ∧ dig (UInt8.ofNat (48 + k)) = k := by
      intro k hk
      have e : (UInt8.ofNat (48 + k)).toNat = 48 + k := by rw [UInt8.toNat_ofNat']; omega
      generalize UInt8.ofNat (48 + k) = d at e
      exact ⟨by unfold isD; exact decide_eq_true (by omega), by unfold dig; omega⟩
    by_cases h : u < 10
    · rw [Lib.decDigits, dif_pos h]
      obtain ⟨h1, h2⟩ := hb u h
      generalize UInt8.ofNat (48 + u) = d at *
      refine ⟨by simp [h1], ?_, by simp⟩
      show valA 0 [_] = u
      unfold valA
      simp [h2]
    · rw [Lib.decDigits, dif_neg h]
      obtain ⟨i1, i2, i3⟩ := ih (u / 10) (by omega)
      obtain ⟨h1, h2⟩ := hb (u % 10) (by omega)
      generalize UInt8.ofNat (48 + u % 10) = d at *
      refine ⟨by rw [List.all_append, i1]; simp [h1], ?_, by simp⟩
      unfold valD valA at i2 ⊢
      rw [List.foldl_append, i2]
      simp [h2]; omega
theorem run_whole {t : List UInt8} (h : t.all isLD = true) : runL t = t.length := by
  unfold runL
  induction t with
  | nil => rfl
  | cons c r ih =>
    simp only [List.all_cons, Bool.and_eq_true] at h
    rw [List.takeWhile_cons, if_pos h.1, List.length_cons, List.length_cons, ih h.2]
theorem word_named {t : List UInt8} (hall : t.all isLD = true) (hne : t ≠ []) (hd : isD (hd0 t) = false) (hu : t ≠ [95]) (hl : t.length ≤ 64) : tokL szL t = ⟨if wordB t then 2 else 1, t, 0, t.length, 0⟩ := by
  have hr := run_whole hall
  have hp := List.length_pos_iff.2 hne
  unfold tokL
  rw [hr, List.take_length, if_neg (by rw [hd]; simp), if_pos ⟨hp, hu⟩, if_neg (by omega)]
theorem words_facts : ∀ w ∈ wordsL, w.all isLD = true ∧ w ≠ [] ∧ isD (hd0 w) = false ∧ w ≠ [95] ∧ w.length ≤ 64 ∧ wordB w = true ∧ wsB (hd0 w) = false ∧ hd0 w ≠ 47 := by decide
theorem twos_facts : ∀ t ∈ twosL, (tokL szL t).k = 4 ∧ (tokL szL t).t = t ∧ (tokL szL t).v = 0 ∧ (tokL szL t).n = t.length ∧ (tokL szL t).e = 0 ∧ wsB (hd0 t) = false ∧ hd0 t ≠ 47 := by decide +kernel
theorem ones_facts : ∀ c ∈ onesL, (tokL szL [c]).k = 4 ∧ (tokL szL [c]).t = [c] ∧ (tokL szL [c]).v = 0 ∧ (tokL szL [c]).n = 1 ∧ (tokL szL [c]).e = 0 ∧ wsB c = false := by decide +kernel
theorem tk_ext {T : Tk} {k t v n e} (h1 : T.k = k) (h2 : T.t = t) (h3 : T.v = v) (h4 : T.n = n) (h5 : T.e = e) : T = ⟨k, t, v, n, e⟩ := by
  cases T; subst h1; subst h2; subst h3; subst h4; subst h5; rfl
/-- A text that stands for itself. -/
structure Good (k : Int) (t : List UInt8) (v : Int) : Prop where
  ne : t ≠ []
  low : ∀ c ∈ t, c.toNat < 128
  ws : wsB (hd0 t) = false
  sl : hd0 t = 47 → t = [47]
  tok : tokL szL t = ⟨k, t, if k = 3 then v else 0, t.length, 0⟩
theorem ld_facts {c : UInt8} (h : isLD c = true) : wsB c = false ∧ c ≠ 47 := by
  constructor
  · simp [wsB]
    refine ⟨?_, ?_, ?_, ?_⟩ <;> rintro rfl <;> exact absurd h (by decide)
  · rintro rfl; exact absurd h (by decide)
theorem hd0_mem {t : List UInt8} (h : t ≠ []) : hd0 t ∈ t := by
  cases t with
  | nil => exact absurd rfl h
  | cons c r => simp [hd0]
theorem good_of {k : Int} {t : List UInt8} {v : Int} (h : fitsB k t v = true) (h5 : k ≠ 5) (hv : v ≤ 9223372036854775807) : Good k t v := by
  unfold fitsB at h
  by_cases c1 : k = 1
  · rw [if_pos c1] at h
    simp only [nameB, speltB, Bool.and_eq_true, decide_eq_true_eq, Bool.not_eq_true'] at h
    obtain ⟨⟨⟨⟨⟨n1, n2⟩, n3⟩, n4⟩, n5⟩, n6⟩ := h
    have hl := List.all_eq_true.1 n4
    have hf := ld_facts (hl _ (hd0_mem n1))
    refine ⟨n1, fun c hc => isLD_low (hl c hc), hf.1, fun e => absurd e hf.2, ?_⟩
    rw [word_named n4 n1 n3 n2 n5, n6, c1]; rfl
  rw [if_neg c1] at h
  by_cases c2 : k = 2
  · rw [if_pos c2] at h
    obtain ⟨w1, w2, w3, w4, w5, w6, w7, w8⟩ := words_facts t (by simpa [wordB] using h)
    refine ⟨w2, fun c hc => isLD_low (List.all_eq_true.1 w1 c hc), w7, fun e => absurd e w8, ?_⟩
    rw [word_named w1 w2 w3 w4 w5, w6, c2]; rfl
  rw [if_neg c2] at h
  by_cases c3 : k = 3
  · rw [if_pos c3] at h
    simp only [Bool.and_eq_true, decide_eq_true_eq] at h
    obtain ⟨h1, h2⟩ := h
    have hi : t = Lib.decDigits v.toNat := by rw [h2]; unfold Lib.itoa; rw [if_neg (by omega)]
    obtain ⟨d1, d2, d3⟩ := dec_digits v.toNat
    rw [← hi] at d1 d2 d3
    have hld : t.all isLD = true := List.all_eq_true.2 fun c hc => by unfold isLD; rw [List.all_eq_true.1 d1 c hc, Bool.or_true]
    have hl := List.all_eq_true.1 hld
    have hf := ld_facts (hl _ (hd0_mem d3))
    have hp := List.length_pos_iff.2 d3
    refine ⟨d3, fun c hc => isLD_low (hl c hc), hf.1, fun e => absurd e hf.2, ?_⟩
    have hnb : numB t = true := by simp only [numB, d1, d2, Bool.true_and]; exact decide_eq_true (by omega)
    unfold tokL
    rw [run_whole hld, List.take_length, if_pos ⟨hp, List.all_eq_true.1 d1 _ (hd0_mem d3)⟩, if_pos hnb, if_pos c3, d2, c3, Int.toNat_of_nonneg h1]
  rw [if_neg c3] at h
  by_cases c4 : k = 4
  · rw [if_pos c4] at h
    simp only [Bool.and_eq_true, decide_eq_true_eq] at h
    obtain ⟨h1, h2⟩ := h
    rcases signL_cases t with e | ⟨hl, e, hm⟩ | ⟨_, e, hm, _⟩
    · rw [h2] at e; exact absurd e h1
    · rw [h2] at e
      rw [← e] at hm
      obtain ⟨s1, s2, s3, s4, s5, s6, s7⟩ := twos_facts t hm
      refine ⟨h1, (twos_low t hm).2, s6, fun e => absurd e s7, ?_⟩
      rw [c4]; exact tk_ext s1 s2 s3 s4 s5
    · rw [h2] at e
      cases t with
      | nil => exact absurd rfl h1
      | cons c r =>
        have hr : r = [] := by simpa using e
        subst hr
        obtain ⟨s1, s2, s3, s4, s5, s6⟩ := ones_facts c hm
        refine ⟨h1, fun d hd => ?_, s6, fun e => ?_, ?_⟩
        · rw [List.mem_singleton] at hd; rw [hd]; exact ones_low c hm
        · have : c = 47 := e
          rw [this]
        · rw [c4]; exact tk_ext s1 s2 s3 s4 s5
  rw [if_neg c4, if_neg h5] at h
  cases h
theorem szL_good {k t v} (h : Good k t v) : szL t ≠ 0 := by
  have hl := h.low _ (hd0_mem h.ne)
  cases t with
  | nil => exact absurd rfl h.ne
  | cons c r => rw [szL_ascii (c := c) hl]; decide
/-- What stands behind a text: nothing, or a blank. -/
def Behind (r : List UInt8) : Prop := r = [] ∨ ∃ q, r = 32 :: q
theorem tok_good {k t v} (h : Good k t v) {r : List UInt8} (hr : Behind r) : tokL szL (t ++ r) = ⟨k, t, if k = 3 then v else 0, t.length, 0⟩ ∧ skipA false (t ++ r) = 0 := by
  constructor
  · rcases hr with rfl | ⟨q, rfl⟩
    · rw [List.append_nil]; exact h.tok
    · rw [tokL_cat ends_blank q h.ne (szL_good h)]; exact h.tok
  · cases t with
    | nil => exact absurd rfl h.ne
    | cons c s =>
      have hw : wsB c = false := h.ws
      rw [List.cons_append, skipA_f, if_neg (by rw [hw]; simp), if_neg]
      rintro ⟨e, hh⟩
      have := h.sl e
      have hs : s = [] := by simpa using congrArg List.tail this
      subst hs
      rcases hr with rfl | ⟨q, rfl⟩
      · simp at hh
      · simp at hh
def Same3 (t : Tok) (x : TkA) : Prop := t.k = x.k ∧ t.t = x.t ∧ t.v = if x.k = 3 then x.v else 0
/-- The tokens of what is printed. -/
inductive Like : List Tok → List TkA → Prop
  | nil : Like [] []
  | cons {t : Tok} {x : TkA} {ts xs} : Same3 t x → Like ts xs → Like (t :: ts) (x :: xs)
theorem Like.length {ts xs} (h : Like ts xs) : ts.length = xs.length := by
  induction h with
  | nil => rfl
  | cons _ _ ih => simp [ih]
theorem toks_join : ∀ (xs : List TkA) (p : Nat), (∀ x ∈ xs, Good x.k x.t x.v) → ∃ ts q, toks p (Lib.joinTail [32] (xs.map (·.t))) = (ts ++ [⟨5, [], 0, q, q⟩], Dg.ok) ∧ Like ts xs
  | [], p, _ => ⟨[], p, by rw [show Lib.joinTail [32] (([] : List TkA).map (·.t)) = [] from rfl, toks_end p (by simp)]; rfl, .nil⟩
  | x :: xs, p, h => by
    have hg := h x (by simp)
    have hb : Behind (Lib.joinTail [32] (xs.map (·.t))) := by
      cases xs with
      | nil => exact .inl rfl
      | cons y ys => exact .inr ⟨_, by simp [Lib.joinTail]; rfl⟩
    obtain ⟨h1, h2⟩ := tok_good hg hb
    have e : Lib.joinTail [32] ((x :: xs).map (·.t)) = 32 :: (x.t ++ Lib.joinTail [32] (xs.map (·.t))) := by simp [Lib.joinTail]
    have hsk : skipA false (32 :: (x.t ++ Lib.joinTail [32] (xs.map (·.t)))) = 1 := by rw [skipA_f, if_pos (by decide), h2]
    obtain ⟨ts, q, i1, i2⟩ := toks_join xs (p + (1 + x.t.length)) fun y hy => h y (by simp [hy])
    rw [e]
    have hd1 : List.drop 1 (32 :: (x.t ++ Lib.joinTail [32] (xs.map (·.t)))) = x.t ++ Lib.joinTail [32] (xs.map (·.t)) := rfl
    rw [toks_one 1 ⟨x.k, x.t, if x.k = 3 then x.v else 0, x.t.length, 0⟩ hsk (by rw [hd1]; exact h1) rfl (by rw [hd1]; simp [hg.ne])]
    have hd2 : List.drop (1 + x.t.length) (32 :: (x.t ++ Lib.joinTail [32] (xs.map (·.t)))) = Lib.joinTail [32] (xs.map (·.t)) := by
      rw [Nat.add_comm, List.drop_succ_cons, List.drop_left]
    rw [hd2, i1]
    refine ⟨_ :: ts, q, ?_, .cons (t := ⟨x.k, x.t, if x.k = 3 then x.v else 0, p + 1, p + 1 + x.t.length⟩) ⟨rfl, rfl, rfl⟩ i2⟩
    simp [after, Dg.ok]
theorem low_join : ∀ (xs : List TkA), (∀ x ∈ xs, Good x.k x.t x.v) → ∀ c ∈ Lib.joinTail [32] (xs.map (·.t)), c.toNat < 128
  | [], _, c, hc => by simp [Lib.joinTail] at hc
  | x :: xs, h, c, hc => by
    have e : Lib.joinTail [32] ((x :: xs).map (·.t)) = 32 :: (x.t ++ Lib.joinTail [32] (xs.map (·.t))) := by simp [Lib.joinTail]
    rw [e] at hc
    rcases List.mem_cons.1 hc with rfl | hc
    · decide
    · rcases List.mem_append.1 hc with hc | hc
      · exact (h x (by simp)).low c hc
      · exact low_join xs (fun y hy => h y (by simp [hy])) c hc
/-- What is printed is cut into the same tokens. -/
theorem lexT_join (xs : List TkA) (h : ∀ x ∈ xs, Good x.k x.t x.v) (hl : (Lib.join (xs.map (·.t)) [32]).length ≤ 65536) : ∃ ts q, lexT (Lib.join (xs.map (·.t)) [32]) = (ts ++ [⟨5, [], 0, q, q⟩], Dg.ok) ∧ Like ts xs := by
  cases xs with
  | nil =>
    refine ⟨[], 0, ?_, .nil⟩
    rw [lexT_val hl (by exact val_nil)]
    rw [show Lib.join (([] : List TkA).map (·.t)) [32] = [] from rfl, toks_end 0 (by simp)]; rfl
  | cons x xs =>
    have hg := h x (by simp)
    have hb : Behind (Lib.joinTail [32] (xs.map (·.t))) := by
      cases xs with
      | nil => exact .inl rfl
      | cons y ys => exact .inr ⟨_, by simp [Lib.joinTail]; rfl⟩
    obtain ⟨h1, h2⟩ := tok_good hg hb
    have e : Lib.join ((x :: xs).map (·.t)) [32] = x.t ++ Lib.joinTail [32] (xs.map (·.t)) := by rw [List.map_cons, Lib.join_cons]
    rw [e] at hl ⊢
    have hv : Val (x.t ++ Lib.joinTail [32] (xs.map (·.t))) := val_ascii _ fun c hc => by
      rcases List.mem_append.1 hc with hc | hc
      · exact hg.low c hc
      · exact low_join xs (fun y hy => h y (by simp [hy])) c hc
    obtain ⟨ts, q, i1, i2⟩ := toks_join xs (0 + (0 + x.t.length)) fun y hy => h y (by simp [hy])
    rw [lexT_val hl hv, toks_one 0 ⟨x.k, x.t, if x.k = 3 then x.v else 0, x.t.length, 0⟩ h2 (by rw [List.drop_zero]; exact h1) rfl (by rw [List.drop_zero]; simp [hg.ne])]
    have hd2 : List.drop (0 + x.t.length) (x.t ++ Lib.joinTail [32] (xs.map (·.t))) = Lib.joinTail [32] (xs.map (·.t)) := by rw [Nat.zero_add, List.drop_left]
    rw [hd2, i1]
    refine ⟨_ :: ts, q, ?_, .cons (t := ⟨x.k, x.t, if x.k = 3 then x.v else 0, 0 + 0, 0 + 0 + x.t.length⟩) ⟨rfl, rfl, rfl⟩ i2⟩
    simp [after, Dg.ok]
end Go.Vm.Lex
