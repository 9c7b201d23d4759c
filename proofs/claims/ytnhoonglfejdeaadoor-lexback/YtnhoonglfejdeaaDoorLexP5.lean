import Derived.Lib.Bytealg
import Derived.Lib.IndexLaws
import Derived.Lib.ParseIntB
set_option linter.unusedSimpArgs false
set_option linter.unusedVariables false
/- The plain words of the lexer: letters, names, blanks, tokens; no program in sight. -/
namespace Go.Vm.Lex
def isL (c : UInt8) : Bool := decide (97 ≤ c.toNat ∧ c.toNat ≤ 122) || decide (65 ≤ c.toNat ∧ c.toNat ≤ 90) || decide (c.toNat = 95)
def isD (c : UInt8) : Bool := decide (48 ≤ c.toNat ∧ c.toNat ≤ 57)
def isLD (c : UInt8) : Bool := isL c || isD c
def wordsL : List (List UInt8) := [[102, 110], [115, 116, 114, 117, 99, 116], [101, 110, 117, 109], [108, 101, 116], [109, 117, 116], [119, 104, 105, 108, 101], [105, 102], [101, 108, 115, 101], [109, 97, 116, 99, 104], [114, 101, 116, 117, 114, 110], [98, 114, 101, 97, 107], [99, 111, 110, 116, 105, 110, 117, 101], [116, 114, 117, 101], [102, 97, 108, 115, 101], [105, 54, 52], [98, 111, 111, 108], [66, 111, 120]]
def wordB (s : List UInt8) : Bool := decide (s ∈ wordsL)
def hd0 : List UInt8 → UInt8
  | [] => 0
  | c :: _ => c
def speltB (s : List UInt8) : Bool := decide (s ≠ []) && decide (s ≠ [95]) && !isD (hd0 s) && s.all isLD
def nameB (s : List UInt8) : Bool := speltB s && decide (s.length ≤ 64) && !wordB s
def runL (s : List UInt8) : Nat := (s.takeWhile isLD).length
theorem runL_nil : runL [] = 0 := rfl
theorem runL_cons (c : UInt8) (r : List UInt8) : runL (c :: r) = if isLD c then runL r + 1 else 0 := by
  unfold runL; rw [List.takeWhile_cons]; split <;> simp
theorem runL_le : ∀ s : List UInt8, runL s ≤ s.length
  | [] => Nat.le_refl _
  | c :: r => by rw [runL_cons]; split <;> simp [runL_le r]
theorem runL_drop {s : List UInt8} {i : Nat} {c : UInt8} (h : s[i]? = some c) : runL (s.drop i) = if isLD c then runL (s.drop (i + 1)) + 1 else 0 := by
  obtain ⟨hi, he⟩ := List.getElem?_eq_some_iff.1 h
  rw [List.drop_eq_getElem_cons hi, he, runL_cons]
theorem runL_end {s : List UInt8} {i : Nat} (h : s.length ≤ i) : runL (s.drop i) = 0 := by rw [List.drop_eq_nil_of_le h]; rfl
end Go.Vm.Lex
/- Blanks, numbers, signs, tokens: the plain words. -/
namespace Go.Vm.Lex
def twosL : List (List UInt8) := [[58, 58], [45, 62], [61, 62], [61, 61], [33, 61], [60, 61], [62, 61], [38, 38], [124, 124]]
def onesL : List UInt8 := [40, 41, 123, 125, 60, 62, 44, 59, 58, 61, 43, 45, 42, 47, 37, 38, 33, 46, 95]
def signL (s : List UInt8) : List UInt8 := if 1 < s.length ∧ s.take 2 ∈ twosL then s.take 2 else if s ≠ [] ∧ hd0 s ∈ onesL then s.take 1 else []
def wsB (c : UInt8) : Bool := decide (c = 32 ∨ c = 9 ∨ c = 10 ∨ c = 13)
/-- How many bytes of blanks and remarks stand ahead; true: within a remark. -/
def skipA : Bool → List UInt8 → Nat
  | _, [] => 0
  | false, c :: r => if wsB c then skipA false r + 1 else if c = 47 ∧ r.head? = some 47 then skipA true r + 1 else 0
  | true, c :: r => if c = 10 then skipA false r + 1 else skipA true r + 1
theorem skipA_le : ∀ (b : Bool) (s : List UInt8), skipA b s ≤ s.length
  | b, [] => by cases b <;> simp [skipA]
  | false, c :: r => by
    have h1 := skipA_le false r; have h2 := skipA_le true r
    unfold skipA; repeat' split
    all_goals simp; try omega
  | true, c :: r => by
    have h1 := skipA_le false r; have h2 := skipA_le true r
    unfold skipA; repeat' split
    all_goals simp; try omega
theorem skipA_f (c : UInt8) (r : List UInt8) : skipA false (c :: r) = if wsB c then skipA false r + 1 else if c = 47 ∧ r.head? = some 47 then skipA true r + 1 else 0 := rfl
theorem skipA_t (c : UInt8) (r : List UInt8) : skipA true (c :: r) = if c = 10 then skipA false r + 1 else skipA true r + 1 := rfl
theorem skipA_nil (b : Bool) : skipA b [] = 0 := by cases b <;> rfl
theorem ib_cons (b : UInt8) (l : List UInt8) (c : UInt8) : Lib.indexByte (b :: l) c = if b == c then 0 else if Lib.indexByte l c == -1 then -1 else Lib.indexByte l c + 1 := rfl
/-- Within a remark: to the line's end. -/
theorem rem_eq : ∀ l : List UInt8, skipA true l = if Lib.indexByte l 10 = -1 then l.length else (Lib.indexByte l 10).toNat + skipA false (l.drop (Lib.indexByte l 10).toNat)
  | [] => by simp [skipA_nil, Lib.indexByte]
  | c :: r => by
    have ih := rem_eq r
    have hg := Lib.indexByte_ge r 10
    rw [skipA_t, ib_cons]
    by_cases hc : c = 10
    · subst hc; simp [skipA_f, wsB]
    · by_cases hn : Lib.indexByte r 10 = -1
      · simp [hc, hn] at ih ⊢; exact ih
      · simp only [hc, hn, if_false, beq_iff_eq] at ih ⊢
        have e1 : (Lib.indexByte r 10 + 1).toNat = (Lib.indexByte r 10).toNat + 1 := by omega
        have e2 : ¬ (Lib.indexByte r 10 + 1 = -1) := by omega
        rw [if_neg e2, e1, List.drop_succ_cons, ih]
        generalize skipA false (List.drop (Lib.indexByte r 10).toNat r) = q
        omega
/-- What digits say. -/
def dig (c : UInt8) : Nat := c.toNat - 48
def valA (n : Nat) (s : List UInt8) : Nat := s.foldl (fun n c => n * 10 + dig c) n
theorem valA_cons (n : Nat) (c : UInt8) (r : List UInt8) : valA n (c :: r) = valA (n * 10 + dig c) r := List.foldl_cons ..
def valD (s : List UInt8) : Nat := valA 0 s
def numB (s : List UInt8) : Bool := s.all isD && decide (valD s ≤ 9223372036854775807)
theorem valA_ge : ∀ (s : List UInt8) (n : Nat), n ≤ valA n s
  | [], n => Nat.le_refl _
  | c :: r, n => by have := valA_ge r (n * 10 + dig c); rw [valA_cons]; omega
def NumSays (n : Nat) (s : List UInt8) (r : Lib.NumEnd Nat) : Prop := match r with
  | .ok u => s.all isD = true ∧ u = valA n s
  | _ => ¬ (s.all isD = true ∧ valA n s ≤ 9223372036854775807)
theorem parse_num {M : Nat} (hM : 9223372036854775807 ≤ M) (s : List UInt8) : ∀ (n : Nat), NumSays n s (Lib.parseUintM M n s) := by
  induction s with
  | nil => intro n; exact ⟨rfl, rfl⟩
  | cons c r ih =>
    intro n
    have hge := valA_ge r (n * 10 + dig c)
    have ih := ih (n * 10 + dig c)
    unfold Lib.parseUintM
    rw [show c.toNat - 48 = dig c from rfl]
    by_cases hd : 48 ≤ c.toNat ∧ c.toNat ≤ 57
    · have hD : isD c = true := by simp [isD, hd]
      rw [if_pos hd]
      by_cases h1 : 1844674407370955162 ≤ n
      · rw [if_pos h1]
        show ¬ _
        rw [valA_cons]; omega
      · rw [if_neg h1]
        by_cases h2 : M < n * 10 + dig c
        · rw [if_pos h2]
          show ¬ _
          rw [valA_cons]; omega
        · rw [if_neg h2]
          have e : (c :: r).all isD = r.all isD := by rw [List.all_cons, hD, Bool.true_and]
          cases hr : Lib.parseUintM M (n * 10 + dig c) r with
          | ok u => rw [hr] at ih; exact ⟨by rw [e]; exact ih.1, ih.2.trans (valA_cons ..).symm⟩
          | _ => rw [hr] at ih; show ¬ _; rw [e, valA_cons]; exact ih
    · rw [if_neg hd]
      show ¬ ((c :: r).all isD = true ∧ _)
      have e : isD c = false := by simp [isD]; omega
      simp [e]
/-- A token without its places, the bytes that it takes, what is wrong with it. 'w': how many bytes a letter has that begins no token. -/
structure Tk where
  k : Int
  t : List UInt8
  v : Int
  n : Nat
  e : Int
def tokL (w : List UInt8 → Nat) (s : List UInt8) : Tk :=
  if 0 < runL s ∧ isD (hd0 s) = true then (if numB (s.take (runL s)) then ⟨3, s.take (runL s), valD (s.take (runL s)), runL s, 0⟩ else ⟨0, [], 0, runL s, 112⟩)
  else if 0 < runL s ∧ s.take (runL s) ≠ [95] then (if 64 < runL s then ⟨0, [], 0, runL s, 2⟩ else ⟨if wordB (s.take (runL s)) then 2 else 1, s.take (runL s), 0, runL s, 0⟩)
  else if signL s ≠ [] then ⟨4, signL s, 0, (signL s).length, 0⟩
  else ⟨0, [], 0, w s, 111⟩
def szN (c : UInt8) : Nat := if 194 ≤ c.toNat ∧ c.toNat ≤ 223 then 2 else if 224 ≤ c.toNat ∧ c.toNat ≤ 239 then 3 else if 240 ≤ c.toNat ∧ c.toNat ≤ 244 then 4 else 0
def szLo (c : UInt8) : Nat := if c.toNat = 224 then 160 else if c.toNat = 240 then 144 else 128
def szHi (c : UInt8) : Nat := if c.toNat = 237 then 159 else if c.toNat = 244 then 143 else 191
def contB (b : UInt8) : Bool := decide (128 ≤ b.toNat ∧ b.toNat ≤ 191)
def hd1 : List UInt8 → UInt8
  | _ :: b :: _ => b
  | _ => 0
/-- How many bytes the letter ahead has; 0: there is none. -/
def szL (s : List UInt8) : Nat :=
  if s = [] then 0
  else if (hd0 s).toNat < 128 then 1
  else if szN (hd0 s) = 0 then 0
  else if s.length < szN (hd0 s) ∨ (hd1 s).toNat < szLo (hd0 s) ∨ szHi (hd0 s) < (hd1 s).toNat then 0
  else if ((s.take (szN (hd0 s))).drop 2).all contB then szN (hd0 s) else 0
theorem szN_le (c : UInt8) : szN c = 0 ∨ (2 ≤ szN c ∧ szN c ≤ 4) := by
  unfold szN
  repeat' split
  all_goals omega
theorem szL_le (s : List UInt8) : szL s ≤ s.length := by
  unfold szL
  repeat' split
  all_goals first | omega | skip
  rename_i h _
  cases s with
  | nil => exact absurd rfl h
  | cons c r => simp
theorem strange_dec (s : List UInt8) (h : ¬ (s = [] ∨ szL s = 0)) : (s.drop (szL s)).length < s.length := by
  have : s.length ≠ 0 := fun e => h (.inl (List.length_eq_zero_iff.1 e))
  rw [List.length_drop]; omega
/-- Where the first byte stands that opens no letter, counted from a place on; -1: there is none. -/
def strange (at_ : Nat) (s : List UInt8) : Int := if h : s = [] ∨ szL s = 0 then (if s = [] then -1 else (at_ : Int)) else strange (at_ + szL s) (s.drop (szL s))
termination_by s.length
decreasing_by exact strange_dec s h
theorem strange_nil (at_ : Nat) : strange at_ [] = -1 := by rw [strange]; simp
theorem strange_bad (at_ : Nat) {s : List UInt8} (h : s ≠ []) (h0 : szL s = 0) : strange at_ s = at_ := by rw [strange]; simp [h, h0]
theorem strange_step (at_ : Nat) {s : List UInt8} (h : s ≠ []) (h0 : szL s ≠ 0) : strange at_ s = strange (at_ + szL s) (s.drop (szL s)) := by rw [strange]; simp [h, h0]
end Go.Vm.Lex
/- Valid sources; a source's tokens, in plain words. -/
namespace Go.Vm.Lex
def Val (s : List UInt8) : Prop := strange 0 s = -1
theorem strange_iff : ∀ (n : Nat) (s : List UInt8) (a b : Nat), s.length ≤ n → (strange a s = -1 ↔ strange b s = -1) := by
  intro n
  induction n with
  | zero => intro s a b h; have : s = [] := List.length_eq_zero_iff.1 (by omega); subst this; rw [strange_nil, strange_nil]
  | succ n ih =>
    intro s a b h
    by_cases h0 : s = []
    · subst h0; rw [strange_nil, strange_nil]
    · by_cases h1 : szL s = 0
      · rw [strange_bad a h0 h1, strange_bad b h0 h1]; omega
      · rw [strange_step a h0 h1, strange_step b h0 h1]
        exact ih _ _ _ (by have := strange_dec s (by simp [h0, h1]); omega)
theorem val_at (a : Nat) (s : List UInt8) : strange a s = -1 ↔ Val s := strange_iff _ s a 0 (Nat.le_refl _)
theorem strange_ge : ∀ (n : Nat) (s : List UInt8) (a : Nat), s.length ≤ n → strange a s = -1 ∨ ((a : Int) ≤ strange a s ∧ strange a s < a + s.length) := by
  intro n
  induction n with
  | zero => intro s a h; have : s = [] := List.length_eq_zero_iff.1 (by omega); subst this; rw [strange_nil]; exact .inl rfl
  | succ n ih =>
    intro s a h
    by_cases h0 : s = []
    · subst h0; rw [strange_nil]; exact .inl rfl
    · have hp : 0 < s.length := List.length_pos_iff.2 h0
      by_cases h1 : szL s = 0
      · rw [strange_bad a h0 h1]; omega
      · rw [strange_step a h0 h1]
        have := ih (s.drop (szL s)) (a + szL s) (by have := strange_dec s (by simp [h0, h1]); omega)
        have hl := szL_le s
        rw [List.length_drop] at this
        omega
theorem val_nil : Val [] := strange_nil 0
theorem val_step {s : List UInt8} (h : s ≠ []) : Val s ↔ szL s ≠ 0 ∧ Val (s.drop (szL s)) := by
  by_cases h1 : szL s = 0
  · unfold Val; rw [strange_bad 0 h h1]; simp [h1]
  · unfold Val; rw [strange_step 0 h h1]; simp [h1]; exact val_at _ _
theorem szL_ascii {c : UInt8} (h : c.toNat < 128) (r : List UInt8) : szL (c :: r) = 1 := by
  unfold szL; rw [if_neg (List.cons_ne_nil _ _)]; simp [hd0, h]
theorem val_cons {c : UInt8} (h : c.toNat < 128) (r : List UInt8) : Val (c :: r) ↔ Val r := by
  rw [val_step (List.cons_ne_nil _ _), szL_ascii h]; simp
theorem szL_cases (s : List UInt8) (h : szL s ≠ 0) : (szL s = 1 ∧ s ≠ [] ∧ (hd0 s).toNat < 128) ∨ (128 ≤ (hd0 s).toNat ∧ szL s = szN (hd0 s) ∧ 2 ≤ szL s ∧ szL s ≤ s.length ∧ szLo (hd0 s) ≤ (hd1 s).toNat ∧ (hd1 s).toNat ≤ szHi (hd0 s) ∧ ((s.take (szL s)).drop 2).all contB = true) := by
  have hN := szN_le (hd0 s)
  unfold szL at h ⊢
  split
  · rename_i h0; rw [if_pos h0] at h; exact absurd rfl h
  · rename_i h0
    rw [if_neg h0] at h
    split
    · rename_i h1; exact .inl ⟨rfl, h0, h1⟩
    · rename_i h1
      rw [if_neg h1] at h
      split
      · rename_i h2; rw [if_pos h2] at h; exact absurd rfl h
      · rename_i h2
        rw [if_neg h2] at h
        split
        · rename_i h3; rw [if_pos h3] at h; exact absurd rfl h
        · rename_i h3
          rw [if_neg h3] at h
          split
          · rename_i h4
            right
            refine ⟨by omega, rfl, by omega, by omega, by omega, by omega, ?_⟩
            exact h4
          · rename_i h4; rw [if_neg h4] at h; exact absurd rfl h
theorem szL_of (s : List UInt8) (h : 128 ≤ (hd0 s).toNat) (hN : 2 ≤ szN (hd0 s)) (hl : szN (hd0 s) ≤ s.length) (h1 : szLo (hd0 s) ≤ (hd1 s).toNat) (h2 : (hd1 s).toNat ≤ szHi (hd0 s)) (h3 : ((s.take (szN (hd0 s))).drop 2).all contB = true) : szL s = szN (hd0 s) := by
  unfold szL
  rw [if_neg (by rintro rfl; simp at hl; omega), if_neg (by omega), if_neg (by omega), if_neg (by omega), if_pos h3]
theorem hd0_take {s t : List UInt8} {n : Nat} (hn : 1 ≤ n) (h : s.take n = t.take n) : hd0 s = hd0 t := by
  obtain ⟨m, rfl⟩ : ∃ m, n = m + 1 := ⟨n - 1, by omega⟩
  cases s <;> cases t <;> simp at h <;> simp [hd0, h]
theorem hd1_take {s t : List UInt8} {n : Nat} (hn : 2 ≤ n) (h : s.take n = t.take n) : hd1 s = hd1 t := by
  obtain ⟨m, rfl⟩ : ∃ m, n = m + 2 := ⟨n - 2, by omega⟩
  match s, t with
  | [], [] => rfl
  | [], _ :: _ => simp at h
  | _ :: _, [] => simp at h
  | [a], [b] => rfl
  | [a], b :: c :: t => simp at h
  | a :: d :: s, [b] => simp at h
  | a :: d :: s, b :: c :: t => simp at h; simp [hd1, h]
/-- A letter's size is told by its bytes alone. -/
theorem szL_loc {s t : List UInt8} (h : szL s ≠ 0) (ht : szL s ≤ t.length) (he : s.take (szL s) = t.take (szL s)) : szL t = szL s := by
  rcases szL_cases s h with ⟨h1, h2, h3⟩ | ⟨h1, h2, h3, h4, h5, h6, h7⟩
  · have e0 := hd0_take (by omega) he
    have hne : t ≠ [] := by rintro rfl; simp at ht; omega
    unfold szL
    rw [if_neg hne, if_pos (by rw [← e0]; exact h3)]
    rw [if_neg h2, if_pos h3]
  · have e0 := hd0_take (by omega) he
    have e1 := hd1_take h3 he
    rw [szL_of t (by rw [← e0]; exact h1) (by rw [← e0]; omega) (by rw [← e0]; omega) (by rw [← e0, ← e1]; exact h5) (by rw [← e0, ← e1]; exact h6) (by rw [← e0, ← h2, ← he]; exact h7), ← e0, h2]
theorem szL_app {s : List UInt8} (h : szL s ≠ 0) (t : List UInt8) : szL (s ++ t) = szL s :=
  szL_loc h (by have := szL_le s; simp; omega) (by rw [List.take_append_of_le_length (szL_le s)])
theorem szL_take {s : List UInt8} (h : szL s ≠ 0) {p : Nat} (hp : szL s ≤ p) : szL (s.take p) = szL s :=
  szL_loc h (by have := szL_le s; simp; omega) (by rw [List.take_take, Nat.min_eq_left hp])
/-- Within a letter all bytes but the first are high. -/
theorem szL_high {s : List UInt8} {p : Nat} (hp : 0 < p) (h : p < szL s) : ∀ c, s[p]? = some c → 128 ≤ c.toNat := by
  intro c hc
  rcases szL_cases s (by omega) with ⟨h1, _⟩ | ⟨h1, h2, h3, h4, h5, h6, h7⟩
  · omega
  · by_cases hp1 : p = 1
    · subst hp1
      have : hd1 s = c := by
        match s, hc with
        | a :: b :: r, hc => simpa [hd1] using hc
      have hlo : 128 ≤ szLo (hd0 s) := by unfold szLo; repeat' split
                                          all_goals omega
      rw [this] at h5; omega
    · have hm : c ∈ (s.take (szL s)).drop 2 := List.mem_iff_getElem?.2 ⟨p - 2, by
        rw [List.getElem?_drop, show 2 + (p - 2) = p by omega, List.getElem?_take, if_pos h]; exact hc⟩
      have := List.all_eq_true.1 h7 c hm
      simp [contB] at this; omega
/-- What ends where a low byte stands. -/
theorem val_split : ∀ (n : Nat) (s : List UInt8) (p : Nat), s.length ≤ n → Val s → (s.length ≤ p ∨ ∃ c, s[p]? = some c ∧ c.toNat < 128) → Val (s.take p) ∧ Val (s.drop p) := by
  intro n
  induction n with
  | zero => intro s p h hv _; have : s = [] := List.length_eq_zero_iff.1 (by omega); subst this; simp [val_nil]
  | succ n ih =>
    intro s p h hv hb
    by_cases h0 : s = []
    · subst h0; simp [val_nil]
    · by_cases hp : p = 0
      · subst hp; simp [val_nil, hv]
      · obtain ⟨h1, h2⟩ := (val_step h0).1 hv
        have hge : szL s ≤ p := by
          apply Classical.byContradiction
          intro hlt
          rcases hb with hb | ⟨c, hc, hc2⟩
          · have := szL_le s; omega
          · have := szL_high (s := s) (p := p) (by omega) (by omega) c hc; omega
        have hd := strange_dec s (by simp [h0, h1])
        obtain ⟨k1, k2⟩ := ih (s.drop (szL s)) (p - szL s) (by omega) h2 (by
          rcases hb with hb | ⟨c, hc, hc2⟩
          · left; rw [List.length_drop]; omega
          · right; exact ⟨c, by rw [List.getElem?_drop, show szL s + (p - szL s) = p by omega]; exact hc, hc2⟩)
        constructor
        · have hne : s.take p ≠ [] := by intro e; rw [List.take_eq_nil_iff] at e; rcases e with e | e; exact hp e; exact h0 e
          rw [val_step hne, szL_take h1 hge]
          refine ⟨h1, ?_⟩
          rw [List.drop_take]; exact k1
        · rw [List.drop_drop, show szL s + (p - szL s) = p by omega] at k2; exact k2
theorem val_app : ∀ (n : Nat) (s t : List UInt8), s.length ≤ n → Val s → Val t → Val (s ++ t) := by
  intro n
  induction n with
  | zero => intro s t h _ ht; have : s = [] := List.length_eq_zero_iff.1 (by omega); subst this; exact ht
  | succ n ih =>
    intro s t h hs ht
    by_cases h0 : s = []
    · subst h0; exact ht
    · obtain ⟨h1, h2⟩ := (val_step h0).1 hs
      have hne : s ++ t ≠ [] := by simp [h0]
      rw [val_step hne, szL_app h1]
      refine ⟨h1, ?_⟩
      rw [List.drop_append_of_le_length (szL_le s)]
      exact ih _ _ (by have := strange_dec s (by simp [h0, h1]); omega) h2 ht
/-- Behind blanks and remarks a valid source goes on valid. -/
theorem val_skip : ∀ (n : Nat) (s : List UInt8), s.length ≤ n → Val s → Val (s.drop (skipA false s)) := by
  intro n
  induction n with
  | zero => intro s h hv; have : s = [] := List.length_eq_zero_iff.1 (by omega); subst this; simp [val_nil]
  | succ n ih =>
    intro s h hv
    cases s with
    | nil => simpa using hv
    | cons c r =>
      rw [skipA_f]
      split
      · rename_i hw
        have hc : c.toNat < 128 := by simp [wsB] at hw; rcases hw with rfl | rfl | rfl | rfl <;> decide
        rw [List.drop_succ_cons]
        exact ih r (by simpa using h) ((val_cons hc r).1 hv)
      · split
        · rename_i hr
          have hc : c.toNat < 128 := by rw [hr.1]; decide
          have hvr := (val_cons hc r).1 hv
          rw [List.drop_succ_cons, rem_eq]
          have hg := Lib.indexByte_ge r 10
          split
          · rw [List.drop_length]; exact val_nil
          · rename_i hi
            rw [← List.drop_drop]
            have hs := Lib.indexByte_some (l := r) (c := 10) (o := (Lib.indexByte r 10).toNat) (by omega)
            refine ih _ (by rw [List.length_drop]; simp at h; omega) ?_
            exact (val_split _ r _ (Nat.le_refl _) hvr (.inr ⟨10, hs.1, by decide⟩)).2
        · exact hv
theorem skip_idem : ∀ (n : Nat) (b : Bool) (s : List UInt8), s.length ≤ n → skipA false (s.drop (skipA b s)) = 0 := by
  intro n
  induction n with
  | zero => intro b s h; have : s = [] := List.length_eq_zero_iff.1 (by omega); subst this; cases b <;> rfl
  | succ n ih =>
    intro b s h
    cases s with
    | nil => cases b <;> rfl
    | cons c r =>
      have hr : r.length ≤ n := by simpa using h
      cases b with
      | false =>
        rw [skipA_f]
        split
        · rw [List.drop_succ_cons]; exact ih _ r hr
        · rename_i h1
          split
          · rw [List.drop_succ_cons]; exact ih _ r hr
          · rename_i h2; rw [List.drop_zero, skipA_f, if_neg h1, if_neg h2]
      | true =>
        rw [skipA_t]
        split
        · rw [List.drop_succ_cons]; exact ih _ r hr
        · rw [List.drop_succ_cons]; exact ih _ r hr
end Go.Vm.Lex
namespace Go.Vm.Lex
theorem isLD_low {c : UInt8} (h : isLD c = true) : c.toNat < 128 := by simp [isLD, isL, isD] at h; omega
theorem takeWhile_take : ∀ (s : List UInt8), s.take (runL s) = s.takeWhile isLD := by
  intro s; unfold runL
  induction s with
  | nil => rfl
  | cons c r ih => rw [List.takeWhile_cons]; split <;> simp [ih]
theorem run_all (s : List UInt8) : (s.take (runL s)).all isLD = true := by
  rw [takeWhile_take]
  induction s with
  | nil => rfl
  | cons c r ih => rw [List.takeWhile_cons]; split <;> simp_all
theorem signL_cases (s : List UInt8) : signL s = [] ∨ (s.length ≥ 2 ∧ signL s = s.take 2 ∧ s.take 2 ∈ twosL) ∨ (s ≠ [] ∧ signL s = s.take 1 ∧ hd0 s ∈ onesL ∧ ¬ (1 < s.length ∧ s.take 2 ∈ twosL)) := by
  unfold signL
  split
  · rename_i h; exact .inr (.inl ⟨h.1, rfl, h.2⟩)
  · rename_i h0
    split
    · rename_i h; exact .inr (.inr ⟨h.1, rfl, h.2, h0⟩)
    · exact .inl rfl
theorem twos_low : ∀ t ∈ twosL, t.length = 2 ∧ ∀ c ∈ t, c.toNat < 128 := by decide
theorem ones_low : ∀ c ∈ onesL, c.toNat < 128 := by decide
/-- What a token takes. -/
theorem tokL_ok {w : List UInt8 → Nat} {s : List UInt8} (h : (tokL w s).e = 0) : 1 ≤ (tokL w s).n ∧ (tokL w s).n ≤ s.length ∧ (tokL w s).t = s.take (tokL w s).n ∧ ∀ c ∈ s.take (tokL w s).n, c.toNat < 128 := by
  have hrl := runL_le s
  have hra : ∀ c ∈ s.take (runL s), c.toNat < 128 := fun c hc => isLD_low (List.all_eq_true.1 (run_all s) c hc)
  unfold tokL at h ⊢
  split
  · rename_i h1
    rw [if_pos h1] at h
    split
    · exact ⟨h1.1, hrl, rfl, hra⟩
    · rename_i h2; rw [if_neg h2] at h; cases h
  · rename_i h1
    rw [if_neg h1] at h
    split
    · rename_i h2
      rw [if_pos h2] at h
      split
      · rename_i h3; rw [if_pos h3] at h; cases h
      · exact ⟨h2.1, hrl, rfl, hra⟩
    · rename_i h2
      rw [if_neg h2] at h
      split
      · rename_i h3
        rcases signL_cases s with h4 | ⟨h4, h5, h6⟩ | ⟨h4, h5, h6, _⟩
        · exact absurd h4 h3
        · have hl : (signL s).length = 2 := by rw [h5, List.length_take]; omega
          show 1 ≤ (signL s).length ∧ (signL s).length ≤ s.length ∧ signL s = s.take (signL s).length ∧ _
          rw [hl]
          exact ⟨by omega, h4, h5, (twos_low _ h6).2⟩
        · have hp : 0 < s.length := List.length_pos_iff.2 h4
          have hl : (signL s).length = 1 := by rw [h5, List.length_take]; omega
          show 1 ≤ (signL s).length ∧ (signL s).length ≤ s.length ∧ signL s = s.take (signL s).length ∧ ∀ c ∈ s.take (signL s).length, c.toNat < 128
          rw [hl]
          refine ⟨by omega, by omega, h5, fun c hc => ?_⟩
          cases s with
          | nil => exact absurd rfl h4
          | cons d r => simp at hc; rw [hc]; exact ones_low _ h6
      · rename_i h3; rw [if_neg h3] at h; cases h
/-- Only the size of what begins no token hangs on 'w'. -/
theorem tokL_w {w w' : List UInt8 → Nat} (s : List UInt8) (h : w s = w' s) : tokL w s = tokL w' s := by unfold tokL; rw [h]
theorem val_low : ∀ (s : List UInt8) (n : Nat), (∀ c ∈ s.take n, c.toNat < 128) → (Val s ↔ Val (s.drop n))
  | [], n, _ => by simp
  | c :: r, 0, _ => by simp
  | c :: r, n + 1, h => by
    rw [val_cons (h c (by simp)) r, List.drop_succ_cons]
    exact val_low r n fun d hd => h d (by simp [hd])
structure Dg where
  c : Int
  f : Nat
  e : Nat
/-- A token, with its places. -/
structure Tok where
  k : Int
  t : List UInt8
  v : Int
  f : Nat
  e : Nat
def Dg.ok : Dg := ⟨0, 0, 0⟩
def after (out : List Tok) (r : List Tok × Dg) : List Tok × Dg := if r.2.c = 0 then (out ++ r.1, r.2) else ([], r.2)
theorem toks_dec (s : List UInt8) (h : ¬ (s.drop (skipA false s) = [] ∨ (tokL szL (s.drop (skipA false s))).e ≠ 0)) : (s.drop (skipA false s + (tokL szL (s.drop (skipA false s))).n)).length < s.length := by
  have h1 : s.drop (skipA false s) ≠ [] := fun e => h (.inl e)
  have h2 : (tokL szL (s.drop (skipA false s))).e = 0 := by
    apply Classical.byContradiction
    intro e; exact h (.inr e)
  obtain ⟨h3, h4, _⟩ := tokL_ok h2
  rw [List.length_drop] at h4 ⊢
  have := List.length_pos_iff.2 h1
  rw [List.length_drop] at this
  omega
/-- The tokens of a source from a place on. -/
def toks (a : Nat) (s : List UInt8) : List Tok × Dg :=
  if h : s.drop (skipA false s) = [] ∨ (tokL szL (s.drop (skipA false s))).e ≠ 0 then
    (if s.drop (skipA false s) = [] then ([⟨5, [], 0, a + s.length, a + s.length⟩], Dg.ok)
     else ([], ⟨(tokL szL (s.drop (skipA false s))).e, a + skipA false s, a + skipA false s + (tokL szL (s.drop (skipA false s))).n⟩))
  else after [⟨(tokL szL (s.drop (skipA false s))).k, (tokL szL (s.drop (skipA false s))).t, (tokL szL (s.drop (skipA false s))).v, a + skipA false s, a + skipA false s + (tokL szL (s.drop (skipA false s))).n⟩] (toks (a + (skipA false s + (tokL szL (s.drop (skipA false s))).n)) (s.drop (skipA false s + (tokL szL (s.drop (skipA false s))).n)))
termination_by s.length
decreasing_by exact toks_dec s h
theorem toks_end (a : Nat) {s : List UInt8} (h : s.drop (skipA false s) = []) : toks a s = ([⟨5, [], 0, a + s.length, a + s.length⟩], Dg.ok) := by rw [toks]; simp [h]
theorem toks_err (a : Nat) {s : List UInt8} (h : s.drop (skipA false s) ≠ []) (he : (tokL szL (s.drop (skipA false s))).e ≠ 0) : toks a s = ([], ⟨(tokL szL (s.drop (skipA false s))).e, a + skipA false s, a + skipA false s + (tokL szL (s.drop (skipA false s))).n⟩) := by rw [toks, dif_pos (.inr he), if_neg h]
theorem toks_ok (a : Nat) {s : List UInt8} (h : s.drop (skipA false s) ≠ []) (he : (tokL szL (s.drop (skipA false s))).e = 0) : toks a s = after [⟨(tokL szL (s.drop (skipA false s))).k, (tokL szL (s.drop (skipA false s))).t, (tokL szL (s.drop (skipA false s))).v, a + skipA false s, a + skipA false s + (tokL szL (s.drop (skipA false s))).n⟩] (toks (a + (skipA false s + (tokL szL (s.drop (skipA false s))).n)) (s.drop (skipA false s + (tokL szL (s.drop (skipA false s))).n))) := by
  rw [toks, dif_neg (by simp [h, he])]
/-- Blanks ahead say nothing. -/
theorem toks_skip (a : Nat) (s : List UInt8) : toks a s = toks (a + skipA false s) (s.drop (skipA false s)) := by
  have hi := skip_idem _ false s (Nat.le_refl _)
  have hl := skipA_le false s
  by_cases h : s.drop (skipA false s) = []
  · rw [toks_end a h, toks_end (a + skipA false s) (by rw [hi, List.drop_zero]; exact h)]
    have e : (s.drop (skipA false s)).length = s.length - skipA false s := List.length_drop ..
    have hl2 : a + skipA false s + (s.drop (skipA false s)).length = a + s.length := by rw [e]; omega
    rw [hl2]
  · by_cases he : (tokL szL (s.drop (skipA false s))).e = 0
    · rw [toks_ok a h he, toks_ok (a + skipA false s) (by rw [hi, List.drop_zero]; exact h) (by rw [hi, List.drop_zero]; exact he), hi]
      simp only [List.drop_zero, Nat.add_zero, List.drop_drop, Nat.zero_add, Nat.add_assoc]
    · rw [toks_err a h he, toks_err (a + skipA false s) (by rw [hi, List.drop_zero]; exact h) (by rw [hi, List.drop_zero]; exact he), hi]
      simp only [List.drop_zero, Nat.add_zero]
theorem after_after (o1 o2 : List Tok) (r : List Tok × Dg) : after o1 (after o2 r) = after (o1 ++ o2) r := by
  unfold after
  by_cases h : r.2.c = 0 <;> simp [h]
theorem after_nil (r : List Tok × Dg) (h : r.2.c ≠ 0 → r.1 = []) : after [] r = r := by
  unfold after
  by_cases hc : r.2.c = 0
  · simp [hc]
  · rw [if_neg hc, ← h hc]
theorem toks_bad : ∀ (n : Nat) (a : Nat) (s : List UInt8), s.length ≤ n → (toks a s).2.c ≠ 0 → (toks a s).1 = [] := by
  intro n
  cases n with
  | zero =>
    intro a s h hc
    have : s = [] := List.length_eq_zero_iff.1 (by omega)
    subst this
    rw [toks_end a (by simp)] at hc; exact absurd rfl hc
  | succ n =>
    intro a s h hc
    by_cases h0 : s.drop (skipA false s) = []
    · rw [toks_end a h0] at hc; exact absurd rfl hc
    · by_cases he : (tokL szL (s.drop (skipA false s))).e = 0
      · rw [toks_ok a h0 he] at hc ⊢
        unfold after at hc ⊢
        split
        · rename_i hz; rw [if_pos hz] at hc; exact absurd hz hc
        · rfl
      · rw [toks_err a h0 he]
/-- The lexer's answer. -/
def lexT (s : List UInt8) : List Tok × Dg := if 65536 < s.length then ([], ⟨2, 0, 0⟩) else if 0 ≤ strange 0 s then ([], ⟨110, (strange 0 s).toNat, (strange 0 s).toNat + 1⟩) else toks 0 s
end Go.Vm.Lex
