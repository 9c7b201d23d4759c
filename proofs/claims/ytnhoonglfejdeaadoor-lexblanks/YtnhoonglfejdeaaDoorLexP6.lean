import Derived.Test.YtnhoonglfejdeaaDoorLexP5
/- Tokens are the source where they stand. -/
namespace Go.Vm.Lex
theorem skip_pre : ∀ (u : List UInt8) (b : Bool), skipA b (u.take (skipA b u)) = skipA b u
  | [], b => by cases b <;> rfl
  | c :: r, false => by
    rw [skipA_f]
    by_cases h : wsB c = true
    · rw [if_pos h, List.take_succ_cons, skipA_f, if_pos h, skip_pre r false]
    · rw [if_neg h]
      by_cases h2 : c = 47 ∧ r.head? = some 47
      · rw [if_pos h2, List.take_succ_cons, skipA_f, if_neg h]
        have hh : (r.take (skipA true r)).head? = some 47 := by
          cases r with
          | nil => simp at h2
          | cons d r =>
            have hd : d = 47 := by simpa using h2.2
            subst hd
            rw [skipA_t, if_neg (by decide), List.take_succ_cons]; rfl
        rw [if_pos ⟨h2.1, hh⟩, skip_pre r true]
      · rw [if_neg h2]; rfl
  | c :: r, true => by
    rw [skipA_t]
    by_cases h : c = 10
    · rw [if_pos h, List.take_succ_cons, skipA_t, if_pos h, skip_pre r false]
    · rw [if_neg h, List.take_succ_cons, skipA_t, if_neg h, skip_pre r true]
theorem lexT_val {s : List UInt8} (h : s.length ≤ 65536) (hv : Val s) : lexT s = toks 0 s := by
  unfold lexT
  rw [if_neg (by omega), if_neg (by unfold Val at hv; omega)]
def Gap (s : List UInt8) (a f : Nat) : Prop := lexT ((s.drop a).take (f - a)) = ([⟨5, [], 0, f - a, f - a⟩], Dg.ok)
def Chain (s : List UInt8) : Nat → List Tok → Prop
  | a, [] => a = s.length
  | a, x :: r => a ≤ x.f ∧ x.f ≤ x.e ∧ x.e ≤ s.length ∧ (s.drop x.f).take (x.e - x.f) = x.t ∧ (x.k = 5 ↔ r = []) ∧ Gap s a x.f ∧ Chain s x.e r
theorem gap_of {s : List UInt8} {a : Nat} (hs : s.length ≤ 65536) (hv : Val (s.drop a)) (hb : (s.drop a).length ≤ skipA false (s.drop a) ∨ ∃ c, (s.drop a)[skipA false (s.drop a)]? = some c ∧ c.toNat < 128) : Gap s a (a + skipA false (s.drop a)) := by
  unfold Gap
  rw [Nat.add_sub_cancel_left]
  have h1 := (val_split _ (s.drop a) _ (Nat.le_refl _) hv hb).1
  have hl := skipA_le false (s.drop a)
  have hle : ((s.drop a).take (skipA false (s.drop a))).length = skipA false (s.drop a) := by rw [List.length_take]; omega
  rw [lexT_val (by rw [hle]; rw [List.length_drop] at hl; omega) h1, toks_end 0 (by rw [skip_pre]; exact List.drop_eq_nil_of_le (by omega)), hle, Nat.zero_add]
theorem tokL_kind {w : List UInt8 → Nat} {s : List UInt8} (h : (tokL w s).e = 0) : (tokL w s).k ≠ 5 := by
  unfold tokL at h ⊢
  repeat' split
  all_goals simp_all
theorem chain_toks {s : List UInt8} (hs : s.length ≤ 65536) : ∀ (n a : Nat), s.length - a ≤ n → a ≤ s.length → Val (s.drop a) → (toks a (s.drop a)).2.c = 0 → Chain s a (toks a (s.drop a)).1 ∧ (toks a (s.drop a)).2 = Dg.ok ∧ (toks a (s.drop a)).1 ≠ [] := by
  intro n
  induction n with
  | zero =>
    intro a h ha hv hc
    have e : s.drop a = [] := List.drop_eq_nil_of_le (by omega)
    rw [toks_end a (by rw [e]; rfl)] at hc ⊢
    have hl : a + (s.drop a).length = s.length := by rw [List.length_drop]; omega
    have ha' : a = s.length := by omega
    refine ⟨?_, rfl, by simp⟩
    simp only [Chain, hl]
    refine ⟨by omega, by omega, by omega, by simp, by simp, ?_, trivial⟩
    have := gap_of hs hv (.inl (by rw [e]; simp))
    rw [e, skipA_nil, Nat.add_zero, ha'] at this
    rw [ha']; exact this
  | succ n ih =>
    intro a h ha hv hc
    have hsl := skipA_le false (s.drop a)
    by_cases h0 : (s.drop a).drop (skipA false (s.drop a)) = []
    · rw [toks_end a h0] at hc ⊢
      have hl : a + (s.drop a).length = s.length := by rw [List.length_drop]; omega
      have hk : skipA false (s.drop a) = (s.drop a).length := by
        have := congrArg List.length h0; rw [List.length_drop] at this; simp at this; rw [List.length_drop] at hsl ⊢; omega
      refine ⟨?_, rfl, by simp⟩
      simp only [Chain, hl]
      refine ⟨by omega, by omega, by omega, by simp, by simp, ?_, trivial⟩
      have := gap_of hs hv (.inl (by omega))
      rw [hk, hl] at this; exact this
    · by_cases he : (tokL szL ((s.drop a).drop (skipA false (s.drop a)))).e = 0
      · obtain ⟨k1, k2, k3, k4⟩ := tokL_ok he
        have hkd := tokL_kind he
        rw [toks_ok a h0 he] at hc ⊢
        simp only [List.drop_drop] at hc k1 k2 k3 k4 hkd ⊢
        generalize hT : tokL szL (s.drop (a + skipA false (s.drop a))) = T at *
        generalize hK : skipA false (s.drop a) = K at *
        rw [List.length_drop] at k2 hsl
        have hv2 : Val (s.drop (a + (K + T.n))) := by
          have := val_skip _ (s.drop a) (Nat.le_refl _) hv
          rw [hK, List.drop_drop] at this
          rw [show a + (K + T.n) = (a + K) + T.n by omega, ← List.drop_drop]
          exact (val_low _ _ k4).1 this
        have hcc : (toks (a + (K + T.n)) (s.drop (a + (K + T.n)))).2.c = 0 := by
          unfold after at hc
          split at hc
          · assumption
          · exact hc
        obtain ⟨i1, i2, i3⟩ := ih (a + (K + T.n)) (by omega) (by omega) hv2 hcc
        unfold after
        rw [if_pos hcc]
        refine ⟨?_, i2, by simp⟩
        simp only [List.singleton_append, Chain]
        have hb : (s.drop a)[K]? = s[a + K]? := List.getElem?_drop ..
        refine ⟨by omega, by omega, by omega, ?_, ?_, ?_, ?_⟩
        · rw [Nat.add_sub_cancel_left, k3]
        · exact ⟨fun e => absurd e hkd, fun e => absurd e i3⟩
        · have := gap_of hs hv (.inr ?_)
          · rw [hK] at this; exact this
          · rw [hK, hb]
            have hlt : a + K < s.length := by omega
            refine ⟨s[a + K], List.getElem?_eq_getElem hlt, k4 _ ?_⟩
            rw [List.mem_iff_getElem?]
            exact ⟨0, by rw [List.getElem?_take, if_pos (by omega), List.getElem?_drop, Nat.add_zero, List.getElem?_eq_getElem hlt]⟩
        · rw [show a + K + T.n = a + (K + T.n) by omega]; exact i1
      · rw [toks_err a h0 he] at hc; exact absurd hc he
theorem tokL_nb (s : List UInt8) : (tokL szL s).n ≤ s.length := by
  have h1 := runL_le s
  have h2 := szL_le s
  by_cases e : (tokL szL s).e = 0
  · exact (tokL_ok e).2.1
  · unfold tokL at e ⊢
    repeat' split
    all_goals simp_all
theorem toks_places : ∀ (n a : Nat) (s : List UInt8), s.length ≤ n → (toks a s).2.c ≠ 0 → a ≤ (toks a s).2.f ∧ (toks a s).2.f ≤ (toks a s).2.e ∧ (toks a s).2.e ≤ a + s.length := by
  intro n
  induction n with
  | zero =>
    intro a s h hc
    have : s = [] := List.length_eq_zero_iff.1 (by omega)
    subst this
    rw [toks_end a (by simp)] at hc; exact absurd rfl hc
  | succ n ih =>
    intro a s h hc
    have hsl := skipA_le false s
    have hnb := tokL_nb (s.drop (skipA false s))
    rw [List.length_drop] at hnb
    by_cases h0 : s.drop (skipA false s) = []
    · rw [toks_end a h0] at hc; exact absurd rfl hc
    · by_cases he : (tokL szL (s.drop (skipA false s))).e = 0
      · have hd := toks_dec s (by simp [h0, he])
        rw [toks_ok a h0 he] at hc ⊢
        generalize (tokL szL (s.drop (skipA false s))) = T at *
        have hcc : (toks (a + (skipA false s + T.n)) (s.drop (skipA false s + T.n))).2.c ≠ 0 := by
          unfold after at hc
          split at hc
          · rename_i hz; exact absurd hz hc
          · exact hc
        have i := ih (a + (skipA false s + T.n)) (s.drop (skipA false s + T.n)) (by omega) hcc
        unfold after
        rw [if_neg hcc]
        rw [List.length_drop] at i
        simp only
        omega
      · rw [toks_err a h0 he]
        simp only
        omega
theorem lexT_places (s : List UInt8) (h : (lexT s).2.c ≠ 0) : (lexT s).1 = [] ∧ (lexT s).2.f ≤ (lexT s).2.e ∧ (lexT s).2.e ≤ s.length := by
  unfold lexT at h ⊢
  split
  · simp
  · rename_i h1
    rw [if_neg h1] at h
    split
    · rename_i h2
      have := strange_ge _ s 0 (Nat.le_refl _)
      refine ⟨rfl, by simp, ?_⟩
      simp only
      omega
    · rename_i h2
      rw [if_neg h2] at h
      have := toks_places _ 0 s (Nat.le_refl _) h
      exact ⟨toks_bad _ _ _ (Nat.le_refl _) h, this.2.1, by omega⟩
theorem lexT_chain (s : List UInt8) (h : (lexT s).2.c = 0) : s.length ≤ 65536 ∧ Val s ∧ lexT s = toks 0 s ∧ Chain s 0 (lexT s).1 ∧ (lexT s).1 ≠ [] ∧ (lexT s).2 = Dg.ok := by
  unfold lexT at h
  split at h
  · cases h
  · rename_i h1
    split at h
    · cases h
    · rename_i h2
      have hv : Val s := by have := strange_ge _ s 0 (Nat.le_refl _); unfold Val; omega
      have e := lexT_val (by omega : s.length ≤ 65536) hv
      have := chain_toks (by omega : s.length ≤ 65536) _ 0 (Nat.le_refl _) (Nat.zero_le _) (by rw [List.drop_zero]; exact hv) (by rw [List.drop_zero]; exact h)
      rw [List.drop_zero] at this
      rw [e]
      exact ⟨by omega, hv, rfl, this.1, this.2.2, this.2.1⟩
end Go.Vm.Lex
