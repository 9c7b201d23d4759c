import Derived.Test.YtlcaoocfajkljaaDoorRvP5
namespace Go.Vm.Rv
set_option maxRecDepth 10000
theorem dg7 (b : Bool) (w : Int) : dfL b w 7 = gfL b w 7 := by cases b with | false => rfl | true => rw [d_7, g_7]
theorem dg15 (b : Bool) (w : Int) : dfL b w 15 = gfL b w 15 := by cases b with | false => rfl | true => rw [d_15, g_15]
theorem dg20 (b : Bool) (w : Int) : dfL b w 20 = gfL b w 20 := by cases b with | false => rfl | true => rw [d_20, g_20]
/-- The instruction that is read is the one that is guessed. -/
theorem opD_guess (op w : Int) (h1 : 1 ≤ op) (h2 : op ≤ 65) (hw : 0 ≤ w ∧ w < 4294967296) (hf : fitsL (rwC op) w = true) : opD (rwC op) op w = guessD op w := by
  obtain ⟨hs, _⟩ := same op h1 h2
  have hr := range op h1 h2
  have ht := shift_all op h1 h2
  unfold opD guessD
  rw [dg7, dg15, dg20]
  rcases hs with ⟨hs, hs1, hs2⟩ | ⟨hs, hs1, hs2⟩
  · rw [← hs]
    generalize (rwC op).f = f at *
    have hf : f = 82 ∨ f = 72 ∨ f = 73 ∨ f = 83 ∨ f = 66 ∨ f = 85 ∨ f = 74 ∨ f = 78 := by omega
    rcases hf with rfl | rfl | rfl | rfl | rfl | rfl | rfl | rfl
    · rfl
    · rw [i_H, gi_H]; rfl
    · rw [gi_I w hw]; rfl
    · rw [gi_S w hw]; rfl
    · rw [gi_B w hw]; rfl
    · rw [gi_U w hw]; rfl
    · rw [gi_J w hw]; rfl
    · rfl
  · rw [f72 _ _ hs hw, decide_eq_true_eq, if_pos ((ht hs).2 hs2)] at hf
    rw [hs, hs1, i_H, gi_h]
    have : w / 1048576 % 64 = w / 1048576 % 32 := by
      have := eH2 w
      have : (rwC op).f7 = 0 ∨ (rwC op).f7 = 32 := by omega
      omega
    rw [this]; rfl
/-- Both read the same. -/
theorem dec_same (w : Int) (hw : 0 ≤ w ∧ w < 4294967296) : decR (fun op => fitsL (rwC op) w) (fun op => opD (rwC op) op w) 65 = decR (fun op => rightL op (gd op w) (ga op w) (gb op w) (gn op w) && decide (rwordL (formL op) (gd op w) (ga op w) (gb op w) (gn op w) = w)) (fun op => guessD op w) 65 := by
  refine decR_ext (fun op h1 h2 => ?_) (fun op h1 h2 h => opD_guess op w h1 h2 hw h) 65 (Nat.le_refl _)
  have hr := guess_right op w h1 h2 hw
  rw [fits_word op w h1 h2 hw, hr, word_same _ _ _ _ _ hr]; rfl
/-- What tells rows apart. -/
def k3 (r : Rw) : Option Int := if r.f = 85 ∨ r.f = 74 then none else if r.f = 78 then some (r.c / 4096 % 8) else some r.f3
def k6 (r : Rw) : Option Int := if r.f = 82 ∨ r.f = 72 then some (r.f7 / 2) else none
def k7 (r : Rw) : Option Int := if r.f = 82 then some r.f7 else none
def kw (r : Rw) : Option Int := if r.f = 78 then some r.c else none
def ne2 (a b : Option Int) : Bool := match a, b with | some x, some y => decide (x ≠ y) | _, _ => false
def apartB (r s : Rw) : Bool := decide (r.c % 128 ≠ s.c % 128) || ne2 (k3 r) (k3 s) || ne2 (k6 r) (k6 s) || ne2 (k7 r) (k7 s) || ne2 (kw r) (kw s)
theorem apart_fin : ∀ a b : Fin 65, a = b ∨ apartB (rwC ((a.1 : Int) + 1)) (rwC ((b.1 : Int) + 1)) = true := by decide +kernel
theorem apart_all (a b : Int) (h1 : 1 ≤ a) (h2 : a ≤ 65) (h3 : 1 ≤ b) (h4 : b ≤ 65) (h : a ≠ b) : apartB (rwC a) (rwC b) = true := by
  have := apart_fin ⟨(a - 1).toNat, by omega⟩ ⟨(b - 1).toNat, by omega⟩
  rw [show ((((a - 1).toNat : Nat) : Int)) + 1 = a by omega, show ((((b - 1).toNat : Nat) : Int)) + 1 = b by omega] at this
  rcases this with h' | h'
  · exact absurd (by have := congrArg Fin.val h'; simp only at this; omega) h
  · exact h'
theorem keys (op w : Int) (h1 : 1 ≤ op) (h2 : op ≤ 65) (hw : 0 ≤ w ∧ w < 4294967296) (hf : fitsL (rwC op) w = true) :
    w % 128 = (rwC op).c % 128 ∧ (∀ k, k3 (rwC op) = some k → w / 4096 % 8 = k) ∧ (∀ k, k6 (rwC op) = some k → w / 67108864 = k) ∧ (∀ k, k7 (rwC op) = some k → w / 33554432 = k) ∧ (∀ k, kw (rwC op) = some k → w = k) := by
  have hr := range op h1 h2
  obtain ⟨⟨hr1, hr2⟩, hr⟩ := hr
  rcases hr with (((hr | hr) | hr) | hr) | hr
  · obtain ⟨hc, hr⟩ := hr
    rw [f82 _ _ hc, decide_eq_true_eq] at hf
    simp [k3, k6, k7, kw, hc]; omega
  · obtain ⟨hc, hr⟩ := hr
    rw [f72 _ _ hc hw, decide_eq_true_eq] at hf
    simp [k3, k6, k7, kw, hc]
    by_cases h27 : (rwC op).c = 27
    · rw [if_pos h27] at hf; omega
    · rw [if_neg h27] at hf; omega
  · obtain ⟨hc, hr⟩ := hr
    rw [fISB _ _ (by omega), decide_eq_true_eq] at hf
    rcases hc with (hc | hc) | hc <;> (simp [k3, k6, k7, kw, hc]; omega)
  · obtain ⟨hc, hr⟩ := hr
    rw [fUJ _ _ hc, decide_eq_true_eq] at hf
    rcases hc with hc | hc <;> (simp [k3, k6, k7, kw, hc]; omega)
  · obtain ⟨hc, hr⟩ := hr
    rw [f78 _ _ hc, decide_eq_true_eq] at hf
    simp [k3, k6, k7, kw, hc]; omega
theorem ne2_no {a b : Option Int} {x : Int} (h1 : ∀ k, a = some k → x = k) (h2 : ∀ k, b = some k → x = k) : ne2 a b = false := by
  cases a with
  | none => rfl
  | some y =>
    cases b with
    | none => rfl
    | some z => simp [ne2, ← h1 y rfl, ← h2 z rfl]
theorem uniq (a b w : Int) (h1 : 1 ≤ a) (h2 : a ≤ 65) (h3 : 1 ≤ b) (h4 : b ≤ 65) (hw : 0 ≤ w ∧ w < 4294967296) (ha : fitsL (rwC a) w = true) (hb : fitsL (rwC b) w = true) : a = b := by
  by_cases h : a = b
  · exact h
  · have hn := apart_all a b h1 h2 h3 h4 h
    obtain ⟨a1, a2, a3, a4, a5⟩ := keys a w h1 h2 hw ha
    obtain ⟨b1, b2, b3, b4, b5⟩ := keys b w h3 h4 hw hb
    unfold apartB at hn
    rw [ne2_no a2 b2, ne2_no a3 b3, ne2_no a4 b4, ne2_no a5 b5] at hn
    simp at hn
    omega
theorem decR_at {p : Int → Bool} {f : Int → D} {op : Int} (hp : p op = true) (hu : ∀ o, 1 ≤ o → o < op → p o = false) : ∀ k : Nat, k ≤ 65 → op ≤ 65 → 66 - (k : Int) ≤ op → decR p f k = .tup [.d (f op), .d (.int .i64 0)]
  | 0, _, _, h => by omega
  | k + 1, hk, ho, h => by
    unfold decR
    by_cases he : 65 - (k : Int) = op
    · rw [he, hp]; rfl
    · rw [hu _ (by omega) (by omega)]
      exact decR_at hp hu k (by omega) ho (by omega)
theorem decR_cases (p : Int → Bool) (f : Int → D) : ∀ k : Nat, k ≤ 65 → (decR p f k = .tup [.d zeroD, .d (.int .i64 10)]) ∨ ∃ op, 1 ≤ op ∧ op ≤ 65 ∧ p op = true ∧ decR p f k = .tup [.d (f op), .d (.int .i64 0)]
  | 0, _ => .inl rfl
  | k + 1, hk => by
    unfold decR
    cases hp : p (65 - k) with
    | true => exact .inr ⟨65 - k, by omega, by omega, hp, rfl⟩
    | false => exact decR_cases p f k (by omega)
end Go.Vm.Rv
