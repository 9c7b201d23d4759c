import Derived.Test.YtnhoonglfejdeaaDoorLexW7
namespace Go.Vm.Lex
set_option maxRecDepth 10000
theorem and_t {b : Bool} {X Y : Prop} (h : b = true) (x : X) : (b = true → X) ∧ (b = false → Y) := ⟨fun _ => x, fun e => by rw [h] at e; cases e⟩
theorem and_f {b : Bool} {X Y : Prop} (h : b = false) (y : Y) : (b = true → X) ∧ (b = false → Y) := ⟨fun e => by (rw [h] at e; cases e), fun _ => y⟩
theorem gd_t {b : Bool} {X Y : Prop} (h : b = true) (x : X) : (b = false → Y) ∧ (b = (!false) → X) := ⟨fun e => by (rw [h] at e; cases e), fun _ => x⟩
theorem gd_f {b : Bool} {X Y : Prop} (h : b = false) (y : Y) : (b = false → Y) ∧ (b = (!false) → X) := ⟨fun _ => y, fun e => by (rw [h] at e; cases e)⟩
def Hid (p : Prop) : Prop := p
theorem idxN {s : List UInt8} {a i : Nat} (hm : s.length ≤ 4611686018427387904) (h : a + i < s.length) {k : UInt8 → Prop} (hk : k s[a + i]) : ∃ c, (0 ≤ IntKind.i64.wrap ((a : Int) + (i : Int)) ∧ s[(IntKind.i64.wrap ((a : Int) + (i : Int))).toNat]? = some c) ∧ k c := by
  rw [i64w (by omega)]
  exact ⟨_, ⟨by omega, by rw [show ((a : Int) + i).toNat = a + i by omega, List.getElem?_eq_getElem h]⟩, hk⟩
section
variable {fx : Nat → Option Obj} (H : Hp)
set_option maxHeartbeats 4000000 in
theorem size_ev (s : List UInt8) (hs : s.length ≤ 4611686018427387904) (a : Nat) (ha : a < s.length) : evF (pgL fx) n_ref11_Size [str s, i64 a] H = some (i64 (szL (s.drop a)), H) := by
  have hd : s.drop a = s[a] :: s.drop (a + 1) := List.drop_eq_getElem_cons ha
  have hne : s.drop a ≠ [] := by rw [hd]; exact List.cons_ne_nil _ _
  have h0 : hd0 (s.drop a) = s[a] := by rw [hd]; rfl
  have hlen : (s.drop a).length = s.length - a := List.length_drop ..
  have h1 : ∀ h : a + 1 < s.length, hd1 (s.drop a) = s[a + 1] := by
    intro h
    rw [hd, List.drop_eq_getElem_cons h]; rfl
  have hlt := s[a].toNat_lt
  clear h0 hne
  refine evF_wp t_ref11_Size rfl rfl ?_ H
  refine idx_of ha ?_
  generalize hc : s[a].toNat = c at *
  have hz : szL (s.drop a) = (if c < 128 then 1 else if szN s[a] = 0 then 0 else if s.length - a < szN s[a] ∨ (hd1 (s.drop a)).toNat < szLo s[a] ∨ szHi s[a] < (hd1 (s.drop a)).toNat then 0 else if (((s.drop a).take (szN s[a])).drop 2).all contB then szN s[a] else 0) := by
    unfold szL
    have hne : s.drop a ≠ [] := by rw [hd]; exact List.cons_ne_nil _ _
    have h0 : hd0 (s.drop a) = s[a] := by rw [hd]; rfl
    rw [if_neg hne, h0, hc, hlen]
  by_cases c1 : c < 128
  · rw [if_pos c1] at hz
    refine And.intro (fun h => ?_) (fun h => ?_)
    · show _ = _
      rw [hz]; rfl
    · have := of_decide_eq_false h; omega
  rw [if_neg c1] at hz
  have ew : IntKind.i64.wrap ((a : Int) + 1) = (a : Int) + 1 := i64w (by omega)
  clear hd
  have hsplit : c < 194 ∨ 244 < c ∨ (194 ≤ c ∧ c ≤ 223) ∨ c = 224 ∨ (225 ≤ c ∧ c ≤ 239 ∧ c ≠ 237) ∨ c = 237 ∨ c = 240 ∨ (241 ≤ c ∧ c ≤ 243) ∨ c = 244 := by clear hz; omega
  replace hz : Hid (szL (s.drop a) = _) := hz
  rcases hsplit with hc2 | hc2 | hc2 | hc2 | hc2 | hc2 | hc2 | hc2 | hc2
  · have hN : szN s[a] = 0 := by unfold szN; rw [hc, if_neg (by omega), if_neg (by omega), if_neg (by omega)]
    repeat' (first
      | refine and_f (decide_eq_false (by omega)) ?_
      | refine and_t (decide_eq_true (by omega)) ?_
      | refine and_f rfl ?_
      | refine and_t rfl ?_)
    unfold Hid at hz
    rw [if_pos hN] at hz
    show _ = _
    rw [hz]; rfl
  · have hN : szN s[a] = 0 := by unfold szN; rw [hc, if_neg (by omega), if_neg (by omega), if_neg (by omega)]
    repeat' (first
      | refine and_f (decide_eq_false (by omega)) ?_
      | refine and_t (decide_eq_true (by omega)) ?_
      | refine and_f rfl ?_
      | refine and_t rfl ?_)
    unfold Hid at hz
    rw [if_pos hN] at hz
    show _ = _
    rw [hz]; rfl
  · have hN : szN s[a] = 2 := by unfold szN; rw [hc, if_pos (by omega)]
    have hLo : szLo s[a] = 128 := by unfold szLo; rw [hc, if_neg (by omega), if_neg (by omega)]
    have hHi : szHi s[a] = 191 := by unfold szHi; rw [hc, if_neg (by omega), if_neg (by omega)]
    have en : IntKind.i64.wrap ((a : Int) + 2) = (a : Int) + 2 := i64w (by omega)
    unfold Hid at hz
    rw [hN, if_neg (by clear hz; omega), hLo, hHi] at hz
    clear hN hLo hHi
    have hz2 : (s.length - a < 2 → szL (s.drop a) = 0) ∧ (¬ s.length - a < 2 → ((hd1 (s.drop a)).toNat < 128 ∨ 191 < (hd1 (s.drop a)).toNat) → szL (s.drop a) = 0) ∧ (¬ s.length - a < 2 → ¬ ((hd1 (s.drop a)).toNat < 128 ∨ 191 < (hd1 (s.drop a)).toNat) → szL (s.drop a) = if (((s.drop a).take 2).drop 2).all contB then 2 else 0) :=
      ⟨fun h => by rw [hz, if_pos (.inl h)], fun h h' => by rw [hz, if_pos (.inr h')], fun h h' => by rw [hz, if_neg (by intro e; rcases e with e | e; exact h e; exact h' e)]⟩
    clear hz
    obtain ⟨z1, z2, z3⟩ := hz2
    replace z1 : Hid _ := z1
    replace z2 : Hid _ := z2
    replace z3 : Hid _ := z3
    repeat' (first
      | refine and_f (decide_eq_false (by omega)) ?_
      | refine and_t (decide_eq_true (by omega)) ?_
      | refine and_f rfl ?_
      | refine and_t rfl ?_)
    by_cases hL : s.length < a + 2
    · refine gd_t (decide_eq_true (by omega)) ?_
      refine gd_t rfl ?_
      refine and_t rfl ?_
      show _ = _
      rw [show szL (s.drop a) = 0 from z1 (by omega)]; rfl
    have hlt1 : a + 1 < s.length := by omega
    rw [h1 hlt1] at z2 z3
    refine gd_f (decide_eq_false (by omega)) ?_
    refine idxS (by omega) hlt1 ?_
    generalize hb : s[a + 1].toNat = b at z2 z3
    by_cases hb1 : b < 128
    · refine gd_t (decide_eq_true (by omega)) ?_
      refine and_t rfl ?_
      show _ = _
      rw [show szL (s.drop a) = 0 from z2 (by omega) (by omega)]; rfl
    refine gd_f (decide_eq_false (by omega)) ?_
    refine idxS (by omega) hlt1 ?_
    by_cases hb2 : 191 < b
    · refine and_t (decide_eq_true (by omega)) ?_
      show _ = _
      rw [show szL (s.drop a) = 0 from z2 (by omega) (by omega)]; rfl
    refine and_f (decide_eq_false (by omega)) ?_
    have hz : szL (s.drop a) = if (((s.drop a).take 2).drop 2).all contB then 2 else 0 := z3 (by omega) (by omega)
    clear z1 z2 z3
    clear h1
    refine wp_loop (α := Nat) (fun i => 2 - i) (fun i => [(0, str s), (1, i64 a), (6, i64 2), (9, i64 i)]) (fun _ => []) (fun i => 2 ≤ i ∧ i ≤ 2 ∧ (((s.drop a).take i).drop 2).all contB = true) ?_ 2 ⟨by omega, by omega, by simp⟩
    rintro i ⟨hi1, hi2, hall⟩
    replace hz : Hid _ := hz
    refine And.intro (fun hl => ?_) (fun hl => ?_)
    · replace hl := of_decide_eq_true hl
      have hlt : a + i < s.length := by omega
      have hget : (s.drop a)[i]? = some s[a + i] := by rw [List.getElem?_drop, List.getElem?_eq_getElem hlt]
      have bad : contB s[a + i] = false → szL (s.drop a) = 0 := by
        intro hcb
        unfold Hid at hz
        rw [hz, if_neg]
        intro hall2
        have hmem : s[a + i] ∈ ((s.drop a).take 2).drop 2 := List.mem_iff_getElem?.2 ⟨i - 2, by
          rw [List.getElem?_drop, show 2 + (i - 2) = i by omega, List.getElem?_take, if_pos (by omega)]; exact hget⟩
        have := List.all_eq_true.1 hall2 _ hmem
        rw [hcb] at this; cases this
      have good : contB s[a + i] = true → (((s.drop a).take (i + 1)).drop 2).all contB = true := by
        intro hcb
        rw [List.take_add_one, hget, List.drop_append_of_le_length (by rw [List.length_take]; omega), List.all_append, hall]
        simp [hcb]
      have hcb : contB s[a + i] = decide (128 ≤ s[a + i].toNat ∧ s[a + i].toNat ≤ 191) := rfl
      refine idxN hs hlt ?_
      by_cases h128 : s[a + i].toNat < 128
      · refine gd_t (decide_eq_true (by omega)) ?_
        refine and_t rfl ?_
        show _ = _
        rw [bad (by rw [hcb]; exact decide_eq_false (by omega))]; rfl
      refine gd_f (decide_eq_false (by omega)) ?_
      refine idxN hs hlt ?_
      by_cases h191 : 191 < s[a + i].toNat
      · refine and_t (decide_eq_true (by omega)) ?_
        show _ = _
        rw [bad (by rw [hcb]; exact decide_eq_false (by omega))]; rfl
      refine and_f (decide_eq_false (by omega)) ?_
      refine ⟨i + 1, ⟨by omega, by omega, good (by rw [hcb]; exact decide_eq_true (by omega))⟩, by omega, ?_, rfl⟩
      rw [i64w (by omega)]; rfl
    · replace hl := of_decide_eq_false hl
      have hi : i = 2 := by omega
      subst hi
      unfold Hid at hz
      show _ = _
      rw [hz, if_pos hall]; rfl
  · have hN : szN s[a] = 3 := by unfold szN; rw [hc, if_neg (by omega), if_pos (by omega)]
    have hLo : szLo s[a] = 160 := by unfold szLo; rw [hc, if_pos (by omega)]
    have hHi : szHi s[a] = 191 := by unfold szHi; rw [hc, if_neg (by omega), if_neg (by omega)]
    have en : IntKind.i64.wrap ((a : Int) + 3) = (a : Int) + 3 := i64w (by omega)
    unfold Hid at hz
    rw [hN, if_neg (by clear hz; omega), hLo, hHi] at hz
    clear hN hLo hHi
    have hz2 : (s.length - a < 3 → szL (s.drop a) = 0) ∧ (¬ s.length - a < 3 → ((hd1 (s.drop a)).toNat < 160 ∨ 191 < (hd1 (s.drop a)).toNat) → szL (s.drop a) = 0) ∧ (¬ s.length - a < 3 → ¬ ((hd1 (s.drop a)).toNat < 160 ∨ 191 < (hd1 (s.drop a)).toNat) → szL (s.drop a) = if (((s.drop a).take 3).drop 2).all contB then 3 else 0) :=
      ⟨fun h => by rw [hz, if_pos (.inl h)], fun h h' => by rw [hz, if_pos (.inr h')], fun h h' => by rw [hz, if_neg (by intro e; rcases e with e | e; exact h e; exact h' e)]⟩
    clear hz
    obtain ⟨z1, z2, z3⟩ := hz2
    replace z1 : Hid _ := z1
    replace z2 : Hid _ := z2
    replace z3 : Hid _ := z3
    repeat' (first
      | refine and_f (decide_eq_false (by omega)) ?_
      | refine and_t (decide_eq_true (by omega)) ?_
      | refine and_f rfl ?_
      | refine and_t rfl ?_)
    by_cases hL : s.length < a + 3
    · refine gd_t (decide_eq_true (by omega)) ?_
      refine gd_t rfl ?_
      refine and_t rfl ?_
      show _ = _
      rw [show szL (s.drop a) = 0 from z1 (by omega)]; rfl
    have hlt1 : a + 1 < s.length := by omega
    rw [h1 hlt1] at z2 z3
    refine gd_f (decide_eq_false (by omega)) ?_
    refine idxS (by omega) hlt1 ?_
    generalize hb : s[a + 1].toNat = b at z2 z3
    by_cases hb1 : b < 160
    · refine gd_t (decide_eq_true (by omega)) ?_
      refine and_t rfl ?_
      show _ = _
      rw [show szL (s.drop a) = 0 from z2 (by omega) (by omega)]; rfl
    refine gd_f (decide_eq_false (by omega)) ?_
    refine idxS (by omega) hlt1 ?_
    by_cases hb2 : 191 < b
    · refine and_t (decide_eq_true (by omega)) ?_
      show _ = _
      rw [show szL (s.drop a) = 0 from z2 (by omega) (by omega)]; rfl
    refine and_f (decide_eq_false (by omega)) ?_
    have hz : szL (s.drop a) = if (((s.drop a).take 3).drop 2).all contB then 3 else 0 := z3 (by omega) (by omega)
    clear z1 z2 z3
    clear h1
    refine wp_loop (α := Nat) (fun i => 3 - i) (fun i => [(0, str s), (1, i64 a), (6, i64 3), (9, i64 i)]) (fun _ => []) (fun i => 2 ≤ i ∧ i ≤ 3 ∧ (((s.drop a).take i).drop 2).all contB = true) ?_ 2 ⟨by omega, by omega, by simp⟩
    rintro i ⟨hi1, hi2, hall⟩
    replace hz : Hid _ := hz
    refine And.intro (fun hl => ?_) (fun hl => ?_)
    · replace hl := of_decide_eq_true hl
      have hlt : a + i < s.length := by omega
      have hget : (s.drop a)[i]? = some s[a + i] := by rw [List.getElem?_drop, List.getElem?_eq_getElem hlt]
      have bad : contB s[a + i] = false → szL (s.drop a) = 0 := by
        intro hcb
        unfold Hid at hz
        rw [hz, if_neg]
        intro hall2
        have hmem : s[a + i] ∈ ((s.drop a).take 3).drop 2 := List.mem_iff_getElem?.2 ⟨i - 2, by
          rw [List.getElem?_drop, show 2 + (i - 2) = i by omega, List.getElem?_take, if_pos (by omega)]; exact hget⟩
        have := List.all_eq_true.1 hall2 _ hmem
        rw [hcb] at this; cases this
      have good : contB s[a + i] = true → (((s.drop a).take (i + 1)).drop 2).all contB = true := by
        intro hcb
        rw [List.take_add_one, hget, List.drop_append_of_le_length (by rw [List.length_take]; omega), List.all_append, hall]
        simp [hcb]
      have hcb : contB s[a + i] = decide (128 ≤ s[a + i].toNat ∧ s[a + i].toNat ≤ 191) := rfl
      refine idxN hs hlt ?_
      by_cases h128 : s[a + i].toNat < 128
      · refine gd_t (decide_eq_true (by omega)) ?_
        refine and_t rfl ?_
        show _ = _
        rw [bad (by rw [hcb]; exact decide_eq_false (by omega))]; rfl
      refine gd_f (decide_eq_false (by omega)) ?_
      refine idxN hs hlt ?_
      by_cases h191 : 191 < s[a + i].toNat
      · refine and_t (decide_eq_true (by omega)) ?_
        show _ = _
        rw [bad (by rw [hcb]; exact decide_eq_false (by omega))]; rfl
      refine and_f (decide_eq_false (by omega)) ?_
      refine ⟨i + 1, ⟨by omega, by omega, good (by rw [hcb]; exact decide_eq_true (by omega))⟩, by omega, ?_, rfl⟩
      rw [i64w (by omega)]; rfl
    · replace hl := of_decide_eq_false hl
      have hi : i = 3 := by omega
      subst hi
      unfold Hid at hz
      show _ = _
      rw [hz, if_pos hall]; rfl
  · have hN : szN s[a] = 3 := by unfold szN; rw [hc, if_neg (by omega), if_pos (by omega)]
    have hLo : szLo s[a] = 128 := by unfold szLo; rw [hc, if_neg (by omega), if_neg (by omega)]
    have hHi : szHi s[a] = 191 := by unfold szHi; rw [hc, if_neg (by omega), if_neg (by omega)]
    have en : IntKind.i64.wrap ((a : Int) + 3) = (a : Int) + 3 := i64w (by omega)
    unfold Hid at hz
    rw [hN, if_neg (by clear hz; omega), hLo, hHi] at hz
    clear hN hLo hHi
    have hz2 : (s.length - a < 3 → szL (s.drop a) = 0) ∧ (¬ s.length - a < 3 → ((hd1 (s.drop a)).toNat < 128 ∨ 191 < (hd1 (s.drop a)).toNat) → szL (s.drop a) = 0) ∧ (¬ s.length - a < 3 → ¬ ((hd1 (s.drop a)).toNat < 128 ∨ 191 < (hd1 (s.drop a)).toNat) → szL (s.drop a) = if (((s.drop a).take 3).drop 2).all contB then 3 else 0) :=
      ⟨fun h => by rw [hz, if_pos (.inl h)], fun h h' => by rw [hz, if_pos (.inr h')], fun h h' => by rw [hz, if_neg (by intro e; rcases e with e | e; exact h e; exact h' e)]⟩
    clear hz
    obtain ⟨z1, z2, z3⟩ := hz2
    replace z1 : Hid _ := z1
    replace z2 : Hid _ := z2
    replace z3 : Hid _ := z3
    repeat' (first
      | refine and_f (decide_eq_false (by omega)) ?_
      | refine and_t (decide_eq_true (by omega)) ?_
      | refine and_f rfl ?_
      | refine and_t rfl ?_)
    by_cases hL : s.length < a + 3
    · refine gd_t (decide_eq_true (by omega)) ?_
      refine gd_t rfl ?_
      refine and_t rfl ?_
      show _ = _
      rw [show szL (s.drop a) = 0 from z1 (by omega)]; rfl
    have hlt1 : a + 1 < s.length := by omega
    rw [h1 hlt1] at z2 z3
    refine gd_f (decide_eq_false (by omega)) ?_
    refine idxS (by omega) hlt1 ?_
    generalize hb : s[a + 1].toNat = b at z2 z3
    by_cases hb1 : b < 128
    · refine gd_t (decide_eq_true (by omega)) ?_
      refine and_t rfl ?_
      show _ = _
      rw [show szL (s.drop a) = 0 from z2 (by omega) (by omega)]; rfl
    refine gd_f (decide_eq_false (by omega)) ?_
    refine idxS (by omega) hlt1 ?_
    by_cases hb2 : 191 < b
    · refine and_t (decide_eq_true (by omega)) ?_
      show _ = _
      rw [show szL (s.drop a) = 0 from z2 (by omega) (by omega)]; rfl
    refine and_f (decide_eq_false (by omega)) ?_
    have hz : szL (s.drop a) = if (((s.drop a).take 3).drop 2).all contB then 3 else 0 := z3 (by omega) (by omega)
    clear z1 z2 z3
    clear h1
    refine wp_loop (α := Nat) (fun i => 3 - i) (fun i => [(0, str s), (1, i64 a), (6, i64 3), (9, i64 i)]) (fun _ => []) (fun i => 2 ≤ i ∧ i ≤ 3 ∧ (((s.drop a).take i).drop 2).all contB = true) ?_ 2 ⟨by omega, by omega, by simp⟩
    rintro i ⟨hi1, hi2, hall⟩
    replace hz : Hid _ := hz
    refine And.intro (fun hl => ?_) (fun hl => ?_)
    · replace hl := of_decide_eq_true hl
      have hlt : a + i < s.length := by omega
      have hget : (s.drop a)[i]? = some s[a + i] := by rw [List.getElem?_drop, List.getElem?_eq_getElem hlt]
      have bad : contB s[a + i] = false → szL (s.drop a) = 0 := by
        intro hcb
        unfold Hid at hz
        rw [hz, if_neg]
        intro hall2
        have hmem : s[a + i] ∈ ((s.drop a).take 3).drop 2 := List.mem_iff_getElem?.2 ⟨i - 2, by
          rw [List.getElem?_drop, show 2 + (i - 2) = i by omega, List.getElem?_take, if_pos (by omega)]; exact hget⟩
        have := List.all_eq_true.1 hall2 _ hmem
        rw [hcb] at this; cases this
      have good : contB s[a + i] = true → (((s.drop a).take (i + 1)).drop 2).all contB = true := by
        intro hcb
        rw [List.take_add_one, hget, List.drop_append_of_le_length (by rw [List.length_take]; omega), List.all_append, hall]
        simp [hcb]
      have hcb : contB s[a + i] = decide (128 ≤ s[a + i].toNat ∧ s[a + i].toNat ≤ 191) := rfl
      refine idxN hs hlt ?_
      by_cases h128 : s[a + i].toNat < 128
      · refine gd_t (decide_eq_true (by omega)) ?_
        refine and_t rfl ?_
        show _ = _
        rw [bad (by rw [hcb]; exact decide_eq_false (by omega))]; rfl
      refine gd_f (decide_eq_false (by omega)) ?_
      refine idxN hs hlt ?_
      by_cases h191 : 191 < s[a + i].toNat
      · refine and_t (decide_eq_true (by omega)) ?_
        show _ = _
        rw [bad (by rw [hcb]; exact decide_eq_false (by omega))]; rfl
      refine and_f (decide_eq_false (by omega)) ?_
      refine ⟨i + 1, ⟨by omega, by omega, good (by rw [hcb]; exact decide_eq_true (by omega))⟩, by omega, ?_, rfl⟩
      rw [i64w (by omega)]; rfl
    · replace hl := of_decide_eq_false hl
      have hi : i = 3 := by omega
      subst hi
      unfold Hid at hz
      show _ = _
      rw [hz, if_pos hall]; rfl
  · have hN : szN s[a] = 3 := by unfold szN; rw [hc, if_neg (by omega), if_pos (by omega)]
    have hLo : szLo s[a] = 128 := by unfold szLo; rw [hc, if_neg (by omega), if_neg (by omega)]
    have hHi : szHi s[a] = 159 := by unfold szHi; rw [hc, if_pos (by omega)]
    have en : IntKind.i64.wrap ((a : Int) + 3) = (a : Int) + 3 := i64w (by omega)
    unfold Hid at hz
    rw [hN, if_neg (by clear hz; omega), hLo, hHi] at hz
    clear hN hLo hHi
    have hz2 : (s.length - a < 3 → szL (s.drop a) = 0) ∧ (¬ s.length - a < 3 → ((hd1 (s.drop a)).toNat < 128 ∨ 159 < (hd1 (s.drop a)).toNat) → szL (s.drop a) = 0) ∧ (¬ s.length - a < 3 → ¬ ((hd1 (s.drop a)).toNat < 128 ∨ 159 < (hd1 (s.drop a)).toNat) → szL (s.drop a) = if (((s.drop a).take 3).drop 2).all contB then 3 else 0) :=
      ⟨fun h => by rw [hz, if_pos (.inl h)], fun h h' => by rw [hz, if_pos (.inr h')], fun h h' => by rw [hz, if_neg (by intro e; rcases e with e | e; exact h e; exact h' e)]⟩
    clear hz
    obtain ⟨z1, z2, z3⟩ := hz2
    replace z1 : Hid _ := z1
    replace z2 : Hid _ := z2
    replace z3 : Hid _ := z3
    repeat' (first
      | refine and_f (decide_eq_false (by omega)) ?_
      | refine and_t (decide_eq_true (by omega)) ?_
      | refine and_f rfl ?_
      | refine and_t rfl ?_)
    by_cases hL : s.length < a + 3
    · refine gd_t (decide_eq_true (by omega)) ?_
      refine gd_t rfl ?_
      refine and_t rfl ?_
      show _ = _
      rw [show szL (s.drop a) = 0 from z1 (by omega)]; rfl
    have hlt1 : a + 1 < s.length := by omega
    rw [h1 hlt1] at z2 z3
    refine gd_f (decide_eq_false (by omega)) ?_
    refine idxS (by omega) hlt1 ?_
    generalize hb : s[a + 1].toNat = b at z2 z3
    by_cases hb1 : b < 128
    · refine gd_t (decide_eq_true (by omega)) ?_
      refine and_t rfl ?_
      show _ = _
      rw [show szL (s.drop a) = 0 from z2 (by omega) (by omega)]; rfl
    refine gd_f (decide_eq_false (by omega)) ?_
    refine idxS (by omega) hlt1 ?_
    by_cases hb2 : 159 < b
    · refine and_t (decide_eq_true (by omega)) ?_
      show _ = _
      rw [show szL (s.drop a) = 0 from z2 (by omega) (by omega)]; rfl
    refine and_f (decide_eq_false (by omega)) ?_
    have hz : szL (s.drop a) = if (((s.drop a).take 3).drop 2).all contB then 3 else 0 := z3 (by omega) (by omega)
    clear z1 z2 z3
    clear h1
    refine wp_loop (α := Nat) (fun i => 3 - i) (fun i => [(0, str s), (1, i64 a), (6, i64 3), (9, i64 i)]) (fun _ => []) (fun i => 2 ≤ i ∧ i ≤ 3 ∧ (((s.drop a).take i).drop 2).all contB = true) ?_ 2 ⟨by omega, by omega, by simp⟩
    rintro i ⟨hi1, hi2, hall⟩
    replace hz : Hid _ := hz
    refine And.intro (fun hl => ?_) (fun hl => ?_)
    · replace hl := of_decide_eq_true hl
      have hlt : a + i < s.length := by omega
      have hget : (s.drop a)[i]? = some s[a + i] := by rw [List.getElem?_drop, List.getElem?_eq_getElem hlt]
      have bad : contB s[a + i] = false → szL (s.drop a) = 0 := by
        intro hcb
        unfold Hid at hz
        rw [hz, if_neg]
        intro hall2
        have hmem : s[a + i] ∈ ((s.drop a).take 3).drop 2 := List.mem_iff_getElem?.2 ⟨i - 2, by
          rw [List.getElem?_drop, show 2 + (i - 2) = i by omega, List.getElem?_take, if_pos (by omega)]; exact hget⟩
        have := List.all_eq_true.1 hall2 _ hmem
        rw [hcb] at this; cases this
      have good : contB s[a + i] = true → (((s.drop a).take (i + 1)).drop 2).all contB = true := by
        intro hcb
        rw [List.take_add_one, hget, List.drop_append_of_le_length (by rw [List.length_take]; omega), List.all_append, hall]
        simp [hcb]
      have hcb : contB s[a + i] = decide (128 ≤ s[a + i].toNat ∧ s[a + i].toNat ≤ 191) := rfl
      refine idxN hs hlt ?_
      by_cases h128 : s[a + i].toNat < 128
      · refine gd_t (decide_eq_true (by omega)) ?_
        refine and_t rfl ?_
        show _ = _
        rw [bad (by rw [hcb]; exact decide_eq_false (by omega))]; rfl
      refine gd_f (decide_eq_false (by omega)) ?_
      refine idxN hs hlt ?_
      by_cases h191 : 191 < s[a + i].toNat
      · refine and_t (decide_eq_true (by omega)) ?_
        show _ = _
        rw [bad (by rw [hcb]; exact decide_eq_false (by omega))]; rfl
      refine and_f (decide_eq_false (by omega)) ?_
      refine ⟨i + 1, ⟨by omega, by omega, good (by rw [hcb]; exact decide_eq_true (by omega))⟩, by omega, ?_, rfl⟩
      rw [i64w (by omega)]; rfl
    · replace hl := of_decide_eq_false hl
      have hi : i = 3 := by omega
      subst hi
      unfold Hid at hz
      show _ = _
      rw [hz, if_pos hall]; rfl
  · have hN : szN s[a] = 4 := by unfold szN; rw [hc, if_neg (by omega), if_neg (by omega), if_pos (by omega)]
    have hLo : szLo s[a] = 144 := by unfold szLo; rw [hc, if_neg (by omega), if_pos (by omega)]
    have hHi : szHi s[a] = 191 := by unfold szHi; rw [hc, if_neg (by omega), if_neg (by omega)]
    have en : IntKind.i64.wrap ((a : Int) + 4) = (a : Int) + 4 := i64w (by omega)
    unfold Hid at hz
    rw [hN, if_neg (by clear hz; omega), hLo, hHi] at hz
    clear hN hLo hHi
    have hz2 : (s.length - a < 4 → szL (s.drop a) = 0) ∧ (¬ s.length - a < 4 → ((hd1 (s.drop a)).toNat < 144 ∨ 191 < (hd1 (s.drop a)).toNat) → szL (s.drop a) = 0) ∧ (¬ s.length - a < 4 → ¬ ((hd1 (s.drop a)).toNat < 144 ∨ 191 < (hd1 (s.drop a)).toNat) → szL (s.drop a) = if (((s.drop a).take 4).drop 2).all contB then 4 else 0) :=
      ⟨fun h => by rw [hz, if_pos (.inl h)], fun h h' => by rw [hz, if_pos (.inr h')], fun h h' => by rw [hz, if_neg (by intro e; rcases e with e | e; exact h e; exact h' e)]⟩
    clear hz
    obtain ⟨z1, z2, z3⟩ := hz2
    replace z1 : Hid _ := z1
    replace z2 : Hid _ := z2
    replace z3 : Hid _ := z3
    repeat' (first
      | refine and_f (decide_eq_false (by omega)) ?_
      | refine and_t (decide_eq_true (by omega)) ?_
      | refine and_f rfl ?_
      | refine and_t rfl ?_)
    by_cases hL : s.length < a + 4
    · refine gd_t (decide_eq_true (by omega)) ?_
      refine gd_t rfl ?_
      refine and_t rfl ?_
      show _ = _
      rw [show szL (s.drop a) = 0 from z1 (by omega)]; rfl
    have hlt1 : a + 1 < s.length := by omega
    rw [h1 hlt1] at z2 z3
    refine gd_f (decide_eq_false (by omega)) ?_
    refine idxS (by omega) hlt1 ?_
    generalize hb : s[a + 1].toNat = b at z2 z3
    by_cases hb1 : b < 144
    · refine gd_t (decide_eq_true (by omega)) ?_
      refine and_t rfl ?_
      show _ = _
      rw [show szL (s.drop a) = 0 from z2 (by omega) (by omega)]; rfl
    refine gd_f (decide_eq_false (by omega)) ?_
    refine idxS (by omega) hlt1 ?_
    by_cases hb2 : 191 < b
    · refine and_t (decide_eq_true (by omega)) ?_
      show _ = _
      rw [show szL (s.drop a) = 0 from z2 (by omega) (by omega)]; rfl
    refine and_f (decide_eq_false (by omega)) ?_
    have hz : szL (s.drop a) = if (((s.drop a).take 4).drop 2).all contB then 4 else 0 := z3 (by omega) (by omega)
    clear z1 z2 z3
    clear h1
    refine wp_loop (α := Nat) (fun i => 4 - i) (fun i => [(0, str s), (1, i64 a), (6, i64 4), (9, i64 i)]) (fun _ => []) (fun i => 2 ≤ i ∧ i ≤ 4 ∧ (((s.drop a).take i).drop 2).all contB = true) ?_ 2 ⟨by omega, by omega, by simp⟩
    rintro i ⟨hi1, hi2, hall⟩
    replace hz : Hid _ := hz
    refine And.intro (fun hl => ?_) (fun hl => ?_)
    · replace hl := of_decide_eq_true hl
      have hlt : a + i < s.length := by omega
      have hget : (s.drop a)[i]? = some s[a + i] := by rw [List.getElem?_drop, List.getElem?_eq_getElem hlt]
      have bad : contB s[a + i] = false → szL (s.drop a) = 0 := by
        intro hcb
        unfold Hid at hz
        rw [hz, if_neg]
        intro hall2
        have hmem : s[a + i] ∈ ((s.drop a).take 4).drop 2 := List.mem_iff_getElem?.2 ⟨i - 2, by
          rw [List.getElem?_drop, show 2 + (i - 2) = i by omega, List.getElem?_take, if_pos (by omega)]; exact hget⟩
        have := List.all_eq_true.1 hall2 _ hmem
        rw [hcb] at this; cases this
      have good : contB s[a + i] = true → (((s.drop a).take (i + 1)).drop 2).all contB = true := by
        intro hcb
        rw [List.take_add_one, hget, List.drop_append_of_le_length (by rw [List.length_take]; omega), List.all_append, hall]
        simp [hcb]
      have hcb : contB s[a + i] = decide (128 ≤ s[a + i].toNat ∧ s[a + i].toNat ≤ 191) := rfl
      refine idxN hs hlt ?_
      by_cases h128 : s[a + i].toNat < 128
      · refine gd_t (decide_eq_true (by omega)) ?_
        refine and_t rfl ?_
        show _ = _
        rw [bad (by rw [hcb]; exact decide_eq_false (by omega))]; rfl
      refine gd_f (decide_eq_false (by omega)) ?_
      refine idxN hs hlt ?_
      by_cases h191 : 191 < s[a + i].toNat
      · refine and_t (decide_eq_true (by omega)) ?_
        show _ = _
        rw [bad (by rw [hcb]; exact decide_eq_false (by omega))]; rfl
      refine and_f (decide_eq_false (by omega)) ?_
      refine ⟨i + 1, ⟨by omega, by omega, good (by rw [hcb]; exact decide_eq_true (by omega))⟩, by omega, ?_, rfl⟩
      rw [i64w (by omega)]; rfl
    · replace hl := of_decide_eq_false hl
      have hi : i = 4 := by omega
      subst hi
      unfold Hid at hz
      show _ = _
      rw [hz, if_pos hall]; rfl
  · have hN : szN s[a] = 4 := by unfold szN; rw [hc, if_neg (by omega), if_neg (by omega), if_pos (by omega)]
    have hLo : szLo s[a] = 128 := by unfold szLo; rw [hc, if_neg (by omega), if_neg (by omega)]
    have hHi : szHi s[a] = 191 := by unfold szHi; rw [hc, if_neg (by omega), if_neg (by omega)]
    have en : IntKind.i64.wrap ((a : Int) + 4) = (a : Int) + 4 := i64w (by omega)
    unfold Hid at hz
    rw [hN, if_neg (by clear hz; omega), hLo, hHi] at hz
    clear hN hLo hHi
    have hz2 : (s.length - a < 4 → szL (s.drop a) = 0) ∧ (¬ s.length - a < 4 → ((hd1 (s.drop a)).toNat < 128 ∨ 191 < (hd1 (s.drop a)).toNat) → szL (s.drop a) = 0) ∧ (¬ s.length - a < 4 → ¬ ((hd1 (s.drop a)).toNat < 128 ∨ 191 < (hd1 (s.drop a)).toNat) → szL (s.drop a) = if (((s.drop a).take 4).drop 2).all contB then 4 else 0) :=
      ⟨fun h => by rw [hz, if_pos (.inl h)], fun h h' => by rw [hz, if_pos (.inr h')], fun h h' => by rw [hz, if_neg (by intro e; rcases e with e | e; exact h e; exact h' e)]⟩
    clear hz
    obtain ⟨z1, z2, z3⟩ := hz2
    replace z1 : Hid _ := z1
    replace z2 : Hid _ := z2
    replace z3 : Hid _ := z3
    repeat' (first
      | refine and_f (decide_eq_false (by omega)) ?_
      | refine and_t (decide_eq_true (by omega)) ?_
      | refine and_f rfl ?_
      | refine and_t rfl ?_)
    by_cases hL : s.length < a + 4
    · refine gd_t (decide_eq_true (by omega)) ?_
      refine gd_t rfl ?_
      refine and_t rfl ?_
      show _ = _
      rw [show szL (s.drop a) = 0 from z1 (by omega)]; rfl
    have hlt1 : a + 1 < s.length := by omega
    rw [h1 hlt1] at z2 z3
    refine gd_f (decide_eq_false (by omega)) ?_
    refine idxS (by omega) hlt1 ?_
    generalize hb : s[a + 1].toNat = b at z2 z3
    by_cases hb1 : b < 128
    · refine gd_t (decide_eq_true (by omega)) ?_
      refine and_t rfl ?_
      show _ = _
      rw [show szL (s.drop a) = 0 from z2 (by omega) (by omega)]; rfl
    refine gd_f (decide_eq_false (by omega)) ?_
    refine idxS (by omega) hlt1 ?_
    by_cases hb2 : 191 < b
    · refine and_t (decide_eq_true (by omega)) ?_
      show _ = _
      rw [show szL (s.drop a) = 0 from z2 (by omega) (by omega)]; rfl
    refine and_f (decide_eq_false (by omega)) ?_
    have hz : szL (s.drop a) = if (((s.drop a).take 4).drop 2).all contB then 4 else 0 := z3 (by omega) (by omega)
    clear z1 z2 z3
    clear h1
    refine wp_loop (α := Nat) (fun i => 4 - i) (fun i => [(0, str s), (1, i64 a), (6, i64 4), (9, i64 i)]) (fun _ => []) (fun i => 2 ≤ i ∧ i ≤ 4 ∧ (((s.drop a).take i).drop 2).all contB = true) ?_ 2 ⟨by omega, by omega, by simp⟩
    rintro i ⟨hi1, hi2, hall⟩
    replace hz : Hid _ := hz
    refine And.intro (fun hl => ?_) (fun hl => ?_)
    · replace hl := of_decide_eq_true hl
      have hlt : a + i < s.length := by omega
      have hget : (s.drop a)[i]? = some s[a + i] := by rw [List.getElem?_drop, List.getElem?_eq_getElem hlt]
      have bad : contB s[a + i] = false → szL (s.drop a) = 0 := by
        intro hcb
        unfold Hid at hz
        rw [hz, if_neg]
        intro hall2
        have hmem : s[a + i] ∈ ((s.drop a).take 4).drop 2 := List.mem_iff_getElem?.2 ⟨i - 2, by
          rw [List.getElem?_drop, show 2 + (i - 2) = i by omega, List.getElem?_take, if_pos (by omega)]; exact hget⟩
        have := List.all_eq_true.1 hall2 _ hmem
        rw [hcb] at this; cases this
      have good : contB s[a + i] = true → (((s.drop a).take (i + 1)).drop 2).all contB = true := by
        intro hcb
        rw [List.take_add_one, hget, List.drop_append_of_le_length (by rw [List.length_take]; omega), List.all_append, hall]
        simp [hcb]
      have hcb : contB s[a + i] = decide (128 ≤ s[a + i].toNat ∧ s[a + i].toNat ≤ 191) := rfl
      refine idxN hs hlt ?_
      by_cases h128 : s[a + i].toNat < 128
      · refine gd_t (decide_eq_true (by omega)) ?_
        refine and_t rfl ?_
        show _ = _
        rw [bad (by rw [hcb]; exact decide_eq_false (by omega))]; rfl
      refine gd_f (decide_eq_false (by omega)) ?_
      refine idxN hs hlt ?_
      by_cases h191 : 191 < s[a + i].toNat
      · refine and_t (decide_eq_true (by omega)) ?_
        show _ = _
        rw [bad (by rw [hcb]; exact decide_eq_false (by omega))]; rfl
      refine and_f (decide_eq_false (by omega)) ?_
      refine ⟨i + 1, ⟨by omega, by omega, good (by rw [hcb]; exact decide_eq_true (by omega))⟩, by omega, ?_, rfl⟩
      rw [i64w (by omega)]; rfl
    · replace hl := of_decide_eq_false hl
      have hi : i = 4 := by omega
      subst hi
      unfold Hid at hz
      show _ = _
      rw [hz, if_pos hall]; rfl
  · have hN : szN s[a] = 4 := by unfold szN; rw [hc, if_neg (by omega), if_neg (by omega), if_pos (by omega)]
    have hLo : szLo s[a] = 128 := by unfold szLo; rw [hc, if_neg (by omega), if_neg (by omega)]
    have hHi : szHi s[a] = 143 := by unfold szHi; rw [hc, if_neg (by omega), if_pos (by omega)]
    have en : IntKind.i64.wrap ((a : Int) + 4) = (a : Int) + 4 := i64w (by omega)
    unfold Hid at hz
    rw [hN, if_neg (by clear hz; omega), hLo, hHi] at hz
    clear hN hLo hHi
    have hz2 : (s.length - a < 4 → szL (s.drop a) = 0) ∧ (¬ s.length - a < 4 → ((hd1 (s.drop a)).toNat < 128 ∨ 143 < (hd1 (s.drop a)).toNat) → szL (s.drop a) = 0) ∧ (¬ s.length - a < 4 → ¬ ((hd1 (s.drop a)).toNat < 128 ∨ 143 < (hd1 (s.drop a)).toNat) → szL (s.drop a) = if (((s.drop a).take 4).drop 2).all contB then 4 else 0) :=
      ⟨fun h => by rw [hz, if_pos (.inl h)], fun h h' => by rw [hz, if_pos (.inr h')], fun h h' => by rw [hz, if_neg (by intro e; rcases e with e | e; exact h e; exact h' e)]⟩
    clear hz
    obtain ⟨z1, z2, z3⟩ := hz2
    replace z1 : Hid _ := z1
    replace z2 : Hid _ := z2
    replace z3 : Hid _ := z3
    repeat' (first
      | refine and_f (decide_eq_false (by omega)) ?_
      | refine and_t (decide_eq_true (by omega)) ?_
      | refine and_f rfl ?_
      | refine and_t rfl ?_)
    by_cases hL : s.length < a + 4
    · refine gd_t (decide_eq_true (by omega)) ?_
      refine gd_t rfl ?_
      refine and_t rfl ?_
      show _ = _
      rw [show szL (s.drop a) = 0 from z1 (by omega)]; rfl
    have hlt1 : a + 1 < s.length := by omega
    rw [h1 hlt1] at z2 z3
    refine gd_f (decide_eq_false (by omega)) ?_
    refine idxS (by omega) hlt1 ?_
    generalize hb : s[a + 1].toNat = b at z2 z3
    by_cases hb1 : b < 128
    · refine gd_t (decide_eq_true (by omega)) ?_
      refine and_t rfl ?_
      show _ = _
      rw [show szL (s.drop a) = 0 from z2 (by omega) (by omega)]; rfl
    refine gd_f (decide_eq_false (by omega)) ?_
    refine idxS (by omega) hlt1 ?_
    by_cases hb2 : 143 < b
    · refine and_t (decide_eq_true (by omega)) ?_
      show _ = _
      rw [show szL (s.drop a) = 0 from z2 (by omega) (by omega)]; rfl
    refine and_f (decide_eq_false (by omega)) ?_
    have hz : szL (s.drop a) = if (((s.drop a).take 4).drop 2).all contB then 4 else 0 := z3 (by omega) (by omega)
    clear z1 z2 z3
    clear h1
    refine wp_loop (α := Nat) (fun i => 4 - i) (fun i => [(0, str s), (1, i64 a), (6, i64 4), (9, i64 i)]) (fun _ => []) (fun i => 2 ≤ i ∧ i ≤ 4 ∧ (((s.drop a).take i).drop 2).all contB = true) ?_ 2 ⟨by omega, by omega, by simp⟩
    rintro i ⟨hi1, hi2, hall⟩
    replace hz : Hid _ := hz
    refine And.intro (fun hl => ?_) (fun hl => ?_)
    · replace hl := of_decide_eq_true hl
      have hlt : a + i < s.length := by omega
      have hget : (s.drop a)[i]? = some s[a + i] := by rw [List.getElem?_drop, List.getElem?_eq_getElem hlt]
      have bad : contB s[a + i] = false → szL (s.drop a) = 0 := by
        intro hcb
        unfold Hid at hz
        rw [hz, if_neg]
        intro hall2
        have hmem : s[a + i] ∈ ((s.drop a).take 4).drop 2 := List.mem_iff_getElem?.2 ⟨i - 2, by
          rw [List.getElem?_drop, show 2 + (i - 2) = i by omega, List.getElem?_take, if_pos (by omega)]; exact hget⟩
        have := List.all_eq_true.1 hall2 _ hmem
        rw [hcb] at this; cases this
      have good : contB s[a + i] = true → (((s.drop a).take (i + 1)).drop 2).all contB = true := by
        intro hcb
        rw [List.take_add_one, hget, List.drop_append_of_le_length (by rw [List.length_take]; omega), List.all_append, hall]
        simp [hcb]
      have hcb : contB s[a + i] = decide (128 ≤ s[a + i].toNat ∧ s[a + i].toNat ≤ 191) := rfl
      refine idxN hs hlt ?_
      by_cases h128 : s[a + i].toNat < 128
      · refine gd_t (decide_eq_true (by omega)) ?_
        refine and_t rfl ?_
        show _ = _
        rw [bad (by rw [hcb]; exact decide_eq_false (by omega))]; rfl
      refine gd_f (decide_eq_false (by omega)) ?_
      refine idxN hs hlt ?_
      by_cases h191 : 191 < s[a + i].toNat
      · refine and_t (decide_eq_true (by omega)) ?_
        show _ = _
        rw [bad (by rw [hcb]; exact decide_eq_false (by omega))]; rfl
      refine and_f (decide_eq_false (by omega)) ?_
      refine ⟨i + 1, ⟨by omega, by omega, good (by rw [hcb]; exact decide_eq_true (by omega))⟩, by omega, ?_, rfl⟩
      rw [i64w (by omega)]; rfl
    · replace hl := of_decide_eq_false hl
      have hi : i = 4 := by omega
      subst hi
      unfold Hid at hz
      show _ = _
      rw [hz, if_pos hall]; rfl
end
end Go.Vm.Lex
