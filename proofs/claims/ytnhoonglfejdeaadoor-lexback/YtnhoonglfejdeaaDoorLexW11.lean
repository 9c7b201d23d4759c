import Derived.Test.YtnhoonglfejdeaaDoorLexW10
import Derived.KernelRfl
namespace Go.Vm.Lex
set_option maxRecDepth 10000
theorem toks_one {a : Nat} {s : List UInt8} (k : Nat) (T : Tk) (h1 : skipA false s = k) (h2 : tokL szL (s.drop k) = T) (h3 : T.e = 0) (h : s.drop k ≠ []) : toks a s = after [⟨T.k, T.t, T.v, a + k, a + k + T.n⟩] (toks (a + (k + T.n)) (s.drop (k + T.n))) := by
  subst h1; subst h2; exact toks_ok a h h3
def src1 : List UInt8 := [108, 101, 116, 32, 120, 61, 49, 50, 59, 47, 47, 32, 97]
def src2 : List UInt8 := [49, 97]
theorem val_ascii (s : List UInt8) (h : ∀ c ∈ s, c.toNat < 128) : Val s := by
  rw [val_low s s.length (by rw [List.take_length]; exact h), List.drop_length]; exact val_nil
theorem lexT_of {s : List UInt8} (h : s.length ≤ 65536) (hv : Val s) : lexT s = toks 0 s := by
  unfold lexT
  rw [if_neg (by omega), if_neg (by unfold Val at hv; omega)]
def toks1 : List Tok := [⟨2, [108, 101, 116], 0, 0, 3⟩, ⟨1, [120], 0, 4, 5⟩, ⟨4, [61], 0, 5, 6⟩, ⟨3, [49, 50], 12, 6, 8⟩, ⟨4, [59], 0, 8, 9⟩, ⟨5, [], 0, 13, 13⟩]
theorem small1 : lexT src1 = (toks1, Dg.ok) := by
  rw [lexT_of (by decide) (val_ascii _ (by decide))]
  rw [toks_one 0 ⟨2, [108, 101, 116], 0, 3, 0⟩ (by kernel_rfl) (by kernel_rfl) rfl (by decide)]
  rw [toks_one (s := List.drop (0 + 3) src1) 1 ⟨1, [120], 0, 1, 0⟩ (by kernel_rfl) (by kernel_rfl) rfl (by decide)]
  rw [toks_one (s := List.drop (1 + 1) (List.drop (0 + 3) src1)) 0 ⟨4, [61], 0, 1, 0⟩ (by kernel_rfl) (by kernel_rfl) rfl (by decide)]
  rw [toks_one (s := List.drop (0 + 1) (List.drop (1 + 1) (List.drop (0 + 3) src1))) 0 ⟨3, [49, 50], 12, 2, 0⟩ (by kernel_rfl) (by kernel_rfl) rfl (by decide)]
  rw [toks_one (s := List.drop (0 + 2) (List.drop (0 + 1) (List.drop (1 + 1) (List.drop (0 + 3) src1)))) 0 ⟨4, [59], 0, 1, 0⟩ (by kernel_rfl) (by kernel_rfl) rfl (by decide)]
  rw [toks_end _ (s := List.drop (0 + 1) (List.drop (0 + 2) (List.drop (0 + 1) (List.drop (1 + 1) (List.drop (0 + 3) src1))))) (by kernel_rfl)]
  rfl
theorem small2 : lexT src2 = ([], ⟨112, 0, 2⟩) := by
  rw [lexT_of (by decide) (val_ascii _ (by decide))]
  have h1 : skipA false src2 = 0 := by kernel_rfl
  have h2 : tokL szL src2 = ⟨0, [], 0, 2, 112⟩ := by kernel_rfl
  rw [toks_err 0 (by rw [h1]; decide) (by rw [h1, List.drop_zero, h2]; decide), h1, List.drop_zero, h2]
  rfl
section
variable {fx : Nat → Option Obj} (H : Hp)
theorem small_ev : evF (pgL fx) n_law11_small [] H = some (boo true, H) := by
  refine evF_wp t_law11_small rfl rfl ?_ H
  have e1 : ∀ H : Hp, evF (pgL fx) n_lex_Tokens [str src1] H = some (toksR (toks1, Dg.ok), H) := fun H => by rw [tokens_ev H src1 (by decide), small1]
  have e2 : ∀ H : Hp, evF (pgL fx) n_lex_Tokens [str src2] H = some (toksR ([], ⟨112, 0, 2⟩), H) := fun H => by rw [tokens_ev H src2 (by decide), small2]
  have e3 : ∀ H : Hp, evF (pgL fx) n_lex_Word [str [102, 110]] H = some (boo true, H) := fun H => word_ev H _
  have e4 : ∀ H : Hp, evF (pgL fx) n_lex_Name [str [102, 109]] H = some (boo true, H) := fun H => name_ev H _ (by decide)
  refine Exists.intro _ (Exists.intro _ (And.intro (e1 _) ?_))
  refine Exists.intro _ (Exists.intro _ (And.intro (e2 _) ?_))
  refine and_t rfl ?_
  refine and_t rfl ?_
  refine Exists.intro _ (And.intro ⟨by decide, rfl⟩ (And.intro rfl ?_))
  refine and_t rfl ?_
  refine Exists.intro _ (And.intro ⟨by decide, rfl⟩ (And.intro rfl ?_))
  refine and_t rfl ?_
  refine and_t rfl ?_
  refine Exists.intro _ (Exists.intro _ (And.intro (e3 _) ?_))
  refine and_t rfl ?_
  refine Exists.intro _ (Exists.intro _ (And.intro (e4 _) ?_))
  rfl
theorem eqL_tok (t : Tok) : eqL (Tok.D t).cells (Tok.D t).cells = true := by simp [Tok.D, tkD, D.cells, eqL, eq1]
theorem ptokens_ev (l : List Tok) (hl : l.length ≤ 1000000) : evF (pgL fx) n_plain_Tokens [.d (.sl (l.map Tok.D)), .d (.sl (l.map Tok.D))] H = some (boo true, H) := by
  refine evF_wp t_plain_Tokens rfl rfl ?_ H
  refine and_f (by simp) ?_
  refine wp_loop (α := Nat) (fun i => l.length - i) (fun i => [(0, .d (.sl (l.map Tok.D))), (1, .d (.sl (l.map Tok.D))), (12, i64 (l.map Tok.D).length), (13, i64 i)]) (fun _ => []) (fun i => i ≤ l.length) ?_ 0 (by omega)
  intro i hi
  refine And.intro (fun h => ?_) (fun h => ?_)
  · replace h := of_decide_eq_true h
    rw [List.length_map] at h
    have hlt : i < l.length := by omega
    have hlt' : i < (l.map Tok.D).length := by rw [List.length_map]; exact hlt
    refine idx_of hlt' ?_
    rw [List.getElem_map]
    refine And.intro rfl ?_
    refine idx_of hlt' ?_
    rw [List.getElem_map]
    refine And.intro rfl ?_
    refine and_f (by rw [Bool.not_eq_false']; exact eqL_tok l[i]) ?_
    refine ⟨i + 1, by omega, by omega, ?_, rfl⟩
    rw [i64w (by omega)]; rfl
  · rfl
theorem after_len (n : Nat) : ∀ (a : Nat) (s : List UInt8), s.length ≤ n → (toks a s).1.length ≤ n + 1 := by
  induction n with
  | zero =>
    intro a s h
    have : s = [] := List.length_eq_zero_iff.1 (by omega)
    subst this
    rw [toks_end a (by simp)]; simp
  | succ n ih =>
    intro a s h
    by_cases h0 : s.drop (skipA false s) = []
    · rw [toks_end a h0]; simp
    · by_cases he : (tokL szL (s.drop (skipA false s))).e = 0
      · have hd := toks_dec s (by simp [h0, he])
        rw [toks_ok a h0 he]
        have := ih (a + (skipA false s + (tokL szL (s.drop (skipA false s))).n)) (s.drop (skipA false s + (tokL szL (s.drop (skipA false s))).n)) (by omega)
        unfold after
        split
        · simp only [List.length_append, List.length_cons, List.length_nil]; omega
        · simp
      · rw [toks_err a h0 he]; simp
theorem lexT_len (s : List UInt8) : (lexT s).1.length ≤ 65537 := by
  unfold lexT
  split
  · simp
  · split
    · simp
    · exact after_len 65536 0 s (by omega)
theorem lexTokens_ev (s : List UInt8) (hs : s.length ≤ maxLen) : evF (pgL fx) n_law11_LexTokens [str s] H = some (boo true, H) := by
  have hl := lexT_len s
  have e1 := fun H : Hp => tokens_ev (fx := fx) H s hs
  have e2 := fun H : Hp => rtokens_ev (fx := fx) H s hs
  generalize lexT s = r at *
  obtain ⟨l, d⟩ := r
  refine evF_wp t_law11_LexTokens rfl rfl ?_ H
  refine Exists.intro _ (Exists.intro _ (And.intro (e1 _) ?_))
  refine Exists.intro _ (Exists.intro _ (And.intro (e2 _) ?_))
  refine Exists.intro _ (Exists.intro _ (And.intro (ptokens_ev _ l (by simp only at hl; omega)) ?_))
  refine and_t rfl ?_
  refine and_t (by simp [eqL, eq1]) ?_
  refine Exists.intro _ (Exists.intro _ (And.intro (small_ev _) ?_))
  rfl
theorem lexNames_ev (s : List UInt8) (hs : s.length ≤ maxLen) : evF (pgL fx) n_law11_LexNames [str s] H = some (boo true, H) := by
  refine evF_wp t_law11_LexNames rfl rfl ?_ H
  refine Exists.intro _ (Exists.intro _ (And.intro (word_ev _ _) ?_))
  refine Exists.intro _ (Exists.intro _ (And.intro (rword_ev _ _) ?_))
  refine and_t (by simp) ?_
  refine Exists.intro _ (Exists.intro _ (And.intro (name_ev _ _ hs) ?_))
  refine Exists.intro _ (Exists.intro _ (And.intro (rname_ev _ _ hs) ?_))
  refine and_t (by simp) ?_
  refine Exists.intro _ (Exists.intro _ (And.intro (small_ev _) ?_))
  rfl
end
end Go.Vm.Lex
