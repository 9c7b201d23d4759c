import Derived.Test.YtlcaoocfajkljaaDoorRvW13
import Derived.Test.YtlcaoocfajkljaaDoorRvW7
set_option linter.unusedSimpArgs false
set_option linter.unusedVariables false
/- Texts tell instructions apart. -/
namespace Go.Vm.Rv
set_option maxRecDepth 10000
def dval (l : List UInt8) : Nat := l.foldl (fun a b => a * 10 + (b.toNat - 48)) 0
theorem dval_snoc (l : List UInt8) (b : UInt8) : dval (l ++ [b]) = dval l * 10 + (b.toNat - 48) := by simp [dval]
theorem ofNat_small (d : Nat) (h : d < 10) : (UInt8.ofNat (48 + d)).toNat = 48 + d := by
  rw [UInt8.toNat_ofNat']; omega
theorem dval_dec : ∀ u : Nat, dval (Lib.decDigits u) = u := by
  intro u
  induction u using Nat.strongRecOn with
  | _ u ih =>
    rw [Lib.decDigits]
    split
    · rename_i h
      simp [dval]
      omega
    · rename_i h
      rw [dval_snoc, ih (u / 10) (by omega), ofNat_small _ (by omega)]
      omega
theorem dec_chars : ∀ u : Nat, ∀ b ∈ Lib.decDigits u, 48 ≤ b.toNat ∧ b.toNat ≤ 57 := by
  intro u
  induction u using Nat.strongRecOn with
  | _ u ih =>
    intro b hb
    rw [Lib.decDigits] at hb
    split at hb
    · rename_i h
      rw [List.mem_singleton] at hb
      subst hb
      rw [ofNat_small u h]; omega
    · rename_i h
      rcases List.mem_append.1 hb with hb | hb
      · exact ih (u / 10) (by omega) b hb
      · rw [List.mem_singleton] at hb
        subst hb
        rw [ofNat_small _ (by omega)]; omega
theorem itoa_chars (n : Int) : ∀ b ∈ Lib.itoa n, b.toNat = 45 ∨ 48 ≤ b.toNat := by
  intro b hb
  unfold Lib.itoa at hb
  split at hb
  · rcases List.mem_cons.1 hb with rfl | hb
    · exact .inl rfl
    · exact .inr (dec_chars _ b hb).1
  · exact .inr (dec_chars _ b hb).1
theorem itoa_inj {n m : Int} (h : Lib.itoa n = Lib.itoa m) : n = m := by
  have no : ∀ (u : Nat) (l : List UInt8), Lib.decDigits u = 45 :: l → False := by
    intro u l hl
    have := dec_chars u 45 (by rw [hl]; exact List.mem_cons_self ..)
    have e : (45 : UInt8).toNat = 45 := rfl
    omega
  unfold Lib.itoa at h
  split at h <;> split at h
  · have h := (List.cons.inj h).2
    have := congrArg dval h
    rw [dval_dec, dval_dec] at this
    omega
  · exact (no _ _ h.symm).elim
  · exact (no _ _ h).elim
  · have := congrArg dval h
    rw [dval_dec, dval_dec] at this
    omega
theorem split_at (s : UInt8) : ∀ {a c b d : List UInt8}, s ∉ a → s ∉ c → a ++ s :: b = c ++ s :: d → a = c ∧ b = d
  | [], [], _, _, _, _, h => ⟨rfl, (List.cons.inj h).2⟩
  | [], y :: c, _, _, _, hc, h => by
    have := (List.cons.inj h).1
    subst this
    exact absurd (List.mem_cons_self ..) hc
  | x :: a, [], _, _, ha, _, h => by
    have := (List.cons.inj h).1
    subst this
    exact absurd (List.mem_cons_self ..) ha
  | x :: a, y :: c, _, _, ha, hc, h => by
    have h' := List.cons.inj h
    obtain ⟨e1, e2⟩ := split_at s (fun hm => ha (List.mem_cons_of_mem _ hm)) (fun hm => hc (List.mem_cons_of_mem _ hm)) h'.2
    exact ⟨by rw [h'.1, e1], e2⟩
theorem not_itoa (s : UInt8) (n : Int) (h : s.toNat ≠ 45 ∧ s.toNat < 48) : s ∉ Lib.itoa n := fun hm => by have := itoa_chars n s hm; omega
theorem not_xL (s : UInt8) (n : Int) (h : s.toNat ≠ 45 ∧ s.toNat < 48) : s ∉ xL n := by
  intro hm
  rcases List.mem_cons.1 hm with rfl | hm
  · exact absurd h.2 (by decide)
  · exact not_itoa s n h hm
theorem xL_inj {n m : Int} (h : xL n = xL m) : n = m := itoa_inj (List.cons.inj h).2
theorem c44 : (44 : UInt8).toNat ≠ 45 ∧ (44 : UInt8).toNat < 48 := by decide
theorem c40 : (40 : UInt8).toNat ≠ 45 ∧ (40 : UInt8).toNat < 48 := by decide
theorem names_nosp : ∀ i : Fin 65, (32 : UInt8) ∉ namesL.getD i.1 [] := by decide +kernel
theorem names_inj : ∀ i j : Fin 65, namesL.getD i.1 [] = namesL.getD j.1 [] → i = j := by decide +kernel
theorem name_at (op : Int) (h1 : 1 ≤ op) (h2 : op ≤ 65) : nameL op = namesL.getD (op - 1).toNat [] := if_neg (by omega)
theorem name_nosp (op : Int) (h1 : 1 ≤ op) (h2 : op ≤ 65) : (32 : UInt8) ∉ nameL op := by
  rw [name_at op h1 h2]; exact names_nosp ⟨(op - 1).toNat, by omega⟩
theorem name_inj (a b : Int) (h1 : 1 ≤ a) (h2 : a ≤ 65) (h3 : 1 ≤ b) (h4 : b ≤ 65) (h : nameL a = nameL b) : a = b := by
  rw [name_at a h1 h2, name_at b h3 h4] at h
  have := names_inj ⟨(a - 1).toNat, by omega⟩ ⟨(b - 1).toNat, by omega⟩ h
  have := congrArg Fin.val this
  simp only at this
  omega
/-- A text is a name, or a name and more behind a blank. -/
theorem rtxt_head (op rd r1 r2 n : Int) : rtxtL op rd r1 r2 n = nameL op ∨ ∃ t, rtxtL op rd r1 r2 n = nameL op ++ 32 :: t := by
  unfold rtxtL
  repeat' split
  all_goals first | exact .inr ⟨_, rfl⟩ | exact .inl rfl
theorem head_op (a b : Int) (h1 : 1 ≤ a) (h2 : a ≤ 65) (h3 : 1 ≤ b) (h4 : b ≤ 65) (s : List UInt8) (ha : s = nameL a ∨ ∃ t, s = nameL a ++ 32 :: t) (hb : s = nameL b ∨ ∃ t, s = nameL b ++ 32 :: t) : a = b := by
  have n1 := name_nosp a h1 h2
  have n2 := name_nosp b h3 h4
  rcases ha with ha | ⟨t, ha⟩ <;> rcases hb with hb | ⟨u, hb⟩
  · exact name_inj a b h1 h2 h3 h4 (ha.symm.trans hb)
  · rw [ha] at hb
    exact absurd (by rw [hb]; simp) n1
  · rw [hb] at ha
    exact absurd (by rw [ha]; simp) n2
  · exact name_inj a b h1 h2 h3 h4 (split_at 32 n1 n2 (ha.symm.trans hb)).1
set_option maxHeartbeats 1000000 in
/-- Right instructions of one text are one. -/
theorem rtxt_inj (a b rd r1 r2 n rd' r1' r2' n' : Int) (hr : rightL a rd r1 r2 n = true) (hr' : rightL b rd' r1' r2' n' = true) (h : rtxtL a rd r1 r2 n = rtxtL b rd' r1' r2' n') : a = b ∧ rd = rd' ∧ r1 = r1' ∧ r2 = r2' ∧ n = n' := by
  obtain ⟨h1, h2⟩ := right_in _ _ _ _ _ hr
  obtain ⟨h3, h4⟩ := right_in _ _ _ _ _ hr'
  have hab : a = b := head_op a b h1 h2 h3 h4 _ (rtxt_head a rd r1 r2 n) (by rw [h]; exact rtxt_head b rd' r1' r2' n')
  subst hab
  refine ⟨rfl, ?_⟩
  obtain ⟨hs, _⟩ := same a h1 h2
  obtain ⟨_, hrg⟩ := range a h1 h2
  have hg : (formL a).f = 82 ∨ (formL a).f = 72 ∨ (formL a).f = 104 ∨ (formL a).f = 73 ∨ (formL a).f = 83 ∨ (formL a).f = 66 ∨ (formL a).f = 85 ∨ (formL a).f = 74 ∨ (formL a).f = 78 := by omega
  unfold rightL at hr hr'
  simp only [Bool.and_eq_true] at hr hr'
  obtain ⟨⟨⟨⟨_, p1⟩, p2⟩, p3⟩, p4⟩ := hr
  obtain ⟨⟨⟨⟨_, q1⟩, q2⟩, q3⟩, q4⟩ := hr'
  unfold rtxtL at h
  have body : ∀ t u : List UInt8, nameL a ++ 32 :: t = nameL a ++ 32 :: u → t = u := fun t u e => (split_at 32 (name_nosp a h1 h2) (name_nosp a h1 h2) e).2
  rcases hg with hg | hg | hg | hg | hg | hg | hg | hg | hg
  · rw [hg] at p1 p2 p3 p4 q1 q2 q3 q4
    simp only [hg, if_true] at h
    have e := body _ _ h
    obtain ⟨e1, e⟩ := split_at 44 (not_xL 44 _ c44) (not_xL 44 _ c44) e
    obtain ⟨e2, e3⟩ := split_at 44 (not_xL 44 _ c44) (not_xL 44 _ c44) e
    have z1 : n = 0 := by simpa [rimmL] using p4
    have z2 : n' = 0 := by simpa [rimmL] using q4
    exact ⟨xL_inj e1, xL_inj e2, xL_inj e3, by omega⟩
  · rw [hg] at p1 p2 p3 p4 q1 q2 q3 q4
    simp [hg] at h
    obtain ⟨e1, e⟩ := split_at 44 (not_xL 44 _ c44) (not_xL 44 _ c44) h
    obtain ⟨e2, e3⟩ := split_at 44 (not_xL 44 _ c44) (not_xL 44 _ c44) e
    have z1 := rreg_f p3
    have z2 := rreg_f q3
    exact ⟨xL_inj e1, xL_inj e2, by omega, itoa_inj e3⟩
  · rw [hg] at p1 p2 p3 p4 q1 q2 q3 q4
    simp [hg] at h
    obtain ⟨e1, e⟩ := split_at 44 (not_xL 44 _ c44) (not_xL 44 _ c44) h
    obtain ⟨e2, e3⟩ := split_at 44 (not_xL 44 _ c44) (not_xL 44 _ c44) e
    have z1 := rreg_f p3
    have z2 := rreg_f q3
    exact ⟨xL_inj e1, xL_inj e2, by omega, itoa_inj e3⟩
  · rw [hg] at p1 p2 p3 p4 q1 q2 q3 q4
    have z1 := rreg_f p3
    have z2 := rreg_f q3
    by_cases ho : a = 4 ∨ 11 ≤ a ∧ a ≤ 17
    · rw [hg, if_neg (by decide), if_pos rfl, if_pos ho, if_neg (by decide), if_pos rfl, if_pos ho] at h
      have e := body _ _ h
      obtain ⟨e1, e⟩ := split_at 44 (not_xL 44 _ c44) (not_xL 44 _ c44) e
      obtain ⟨e2, e3⟩ := split_at 40 (not_itoa 40 _ c40) (not_itoa 40 _ c40) e
      exact ⟨xL_inj e1, xL_inj (List.append_cancel_right e3), by omega, itoa_inj e2⟩
    · rw [hg, if_neg (by decide), if_pos rfl, if_neg ho, if_neg (by decide), if_pos rfl, if_neg ho] at h
      have e := body _ _ h
      obtain ⟨e1, e⟩ := split_at 44 (not_xL 44 _ c44) (not_xL 44 _ c44) e
      obtain ⟨e2, e3⟩ := split_at 44 (not_xL 44 _ c44) (not_xL 44 _ c44) e
      exact ⟨xL_inj e1, xL_inj e2, by omega, itoa_inj e3⟩
  · rw [hg] at p1 p2 p3 p4 q1 q2 q3 q4
    simp [hg] at h
    obtain ⟨e1, e⟩ := split_at 44 (not_xL 44 _ c44) (not_xL 44 _ c44) h
    obtain ⟨e2, e3⟩ := split_at 40 (not_itoa 40 _ c40) (not_itoa 40 _ c40) e
    have z1 := rreg_f p1
    have z2 := rreg_f q1
    exact ⟨by omega, xL_inj (List.append_cancel_right e3), xL_inj e1, itoa_inj e2⟩
  · rw [hg] at p1 p2 p3 p4 q1 q2 q3 q4
    simp [hg] at h
    obtain ⟨e1, e⟩ := split_at 44 (not_xL 44 _ c44) (not_xL 44 _ c44) h
    obtain ⟨e2, e3⟩ := split_at 44 (not_xL 44 _ c44) (not_xL 44 _ c44) e
    have z1 := rreg_f p1
    have z2 := rreg_f q1
    exact ⟨by omega, xL_inj e1, xL_inj e2, itoa_inj e3⟩
  · rw [hg] at p1 p2 p3 p4 q1 q2 q3 q4
    simp [hg] at h
    obtain ⟨e1, e2⟩ := split_at 44 (not_xL 44 _ c44) (not_xL 44 _ c44) h
    have z1 := rreg_f p2
    have z2 := rreg_f q2
    have z3 := rreg_f p3
    have z4 := rreg_f q3
    exact ⟨xL_inj e1, by omega, by omega, itoa_inj e2⟩
  · rw [hg] at p1 p2 p3 p4 q1 q2 q3 q4
    simp [hg] at h
    obtain ⟨e1, e2⟩ := split_at 44 (not_xL 44 _ c44) (not_xL 44 _ c44) h
    have z1 := rreg_f p2
    have z2 := rreg_f q2
    have z3 := rreg_f p3
    have z4 := rreg_f q3
    exact ⟨xL_inj e1, by omega, by omega, itoa_inj e2⟩
  · rw [hg] at p1 p2 p3 p4 q1 q2 q3 q4
    have z1 := rreg_f p1
    have z2 := rreg_f q1
    have z3 := rreg_f p2
    have z4 := rreg_f q2
    have z5 := rreg_f p3
    have z6 := rreg_f q3
    have z7 : n = 0 := by simpa [rimmL] using p4
    have z8 : n' = 0 := by simpa [rimmL] using q4
    omega
end Go.Vm.Rv
