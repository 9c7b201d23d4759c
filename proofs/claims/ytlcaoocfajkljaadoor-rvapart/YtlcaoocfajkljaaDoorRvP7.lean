import Derived.Test.YtlcaoocfajkljaaDoorRvP6
set_option linter.unusedSimpArgs false
set_option linter.unusedVariables false
namespace Go.Vm.Rv
set_option maxRecDepth 10000
theorem rreg_t {r : Int} (h : rregL r true = true) : 0 ≤ r ∧ r < 32 := by simp [rregL] at h; omega
theorem rreg_f {r : Int} (h : rregL r false = true) : r = 0 := by simpa [rregL] using h
theorem dig5 (w c rd f3 r1 m : Int) (hc : 0 ≤ c ∧ c < 128) (h0 : 0 ≤ rd ∧ rd < 32) (h1 : 0 ≤ f3 ∧ f3 < 8) (h2 : 0 ≤ r1 ∧ r1 < 32) (h3 : 0 ≤ m ∧ m < 4096) (h : w = c + rd * 128 + f3 * 4096 + r1 * 32768 + m * 1048576) :
    (0 ≤ w ∧ w < 4294967296) ∧ w / 128 % 32 = rd ∧ w / 32768 % 32 = r1 ∧ w / 1048576 = m := by
  subst h
  refine ⟨by omega, by omega, by omega, by omega⟩
theorem even_of {n : Int} (h : n.tmod 2 = 0) : n % 2 = 0 := Int.emod_eq_zero_of_dvd (Int.dvd_of_tmod_eq_zero h)
theorem backB (n a b c d : Int) (hn : -4096 ≤ n ∧ n ≤ 4094 ∧ n % 2 = 0) (ha : a = n / 2 % 16) (hb : b = n / 32 % 64) (hc : c = n / 2048 % 2) (hd : d = n / 4096 % 2) :
    (if a * 2 + b * 32 + c * 2048 + d * 4096 < 4096 then a * 2 + b * 32 + c * 2048 + d * 4096 else a * 2 + b * 32 + c * 2048 + d * 4096 - 8192) = n := by
  have e1 : n / 32 = n / 2 / 16 := by omega
  have e2 : n / 2048 = n / 2 / 16 / 64 := by omega
  have e3 : n / 4096 = n / 2 / 16 / 64 / 2 := by omega
  rw [e1] at hb; rw [e2] at hc; rw [e3] at hd
  have e0 : n = n / 2 * 2 := by omega
  generalize n / 2 = u at *
  have a1 : u = u % 16 + u / 16 * 16 := by omega
  generalize u / 16 = v at *
  have a2 : v = v % 64 + v / 64 * 64 := by omega
  generalize v / 64 = x at *
  split <;> omega
theorem backJ (n a b c d : Int) (hn : -1048576 ≤ n ∧ n ≤ 1048574 ∧ n % 2 = 0) (ha : a = n / 2 % 1024) (hb : b = n / 2048 % 2) (hc : c = n / 4096 % 256) (hd : d = n / 1048576 % 2) :
    (if a * 2 + b * 2048 + c * 4096 + d * 1048576 < 1048576 then a * 2 + b * 2048 + c * 4096 + d * 1048576 else a * 2 + b * 2048 + c * 4096 + d * 1048576 - 2097152) = n := by
  have e1 : n / 2048 = n / 2 / 1024 := by omega
  have e2 : n / 4096 = n / 2 / 1024 / 2 := by omega
  have e3 : n / 1048576 = n / 2 / 1024 / 2 / 256 := by omega
  rw [e1] at hb; rw [e2] at hc; rw [e3] at hd
  have e0 : n = n / 2 * 2 := by omega
  generalize n / 2 = u at *
  have a1 : u = u % 1024 + u / 1024 * 1024 := by omega
  generalize u / 1024 = v at *
  have a2 : v = v % 2 + v / 2 * 2 := by omega
  generalize v / 2 = x at *
  split <;> omega
theorem dwB (w : Int) : w / 256 % 16 = w / 128 % 32 / 2 ∧ w / 128 % 2 = w / 128 % 32 % 2 ∧ w / 2147483648 = w / 33554432 / 64 := by omega
theorem dwJ (w : Int) : w / 2097152 % 1024 = w / 4096 / 512 % 1024 ∧ w / 1048576 % 2 = w / 4096 / 256 % 2 ∧ w / 2147483648 = w / 4096 / 524288 := by omega
theorem dwJ2 (a b c d u : Int) (ha : 0 ≤ a ∧ a < 256) (hb : 0 ≤ b ∧ b < 2) (hc : 0 ≤ c ∧ c < 1024) (hd : 0 ≤ d ∧ d < 2) (hu : u = a + b * 256 + c * 512 + d * 524288) : u % 256 = a ∧ u / 256 % 2 = b ∧ u / 512 % 1024 = c ∧ u / 524288 = d := by
  subst hu
  refine ⟨by omega, by omega, by omega, by omega⟩
set_option maxHeartbeats 2000000 in
/-- A right instruction is read from its word as it was. -/
theorem back (op rd r1 r2 n : Int) (h : rightL op rd r1 r2 n = true) (w : Int) (he : wordL (rwC op) rd r1 r2 n = w) : (0 ≤ w ∧ w < 4294967296) ∧ gd op w = rd ∧ ga op w = r1 ∧ gb op w = r2 ∧ gn op w = n := by
  obtain ⟨h1, h2⟩ := right_in _ _ _ _ _ h
  obtain ⟨hs, _⟩ := same op h1 h2
  obtain ⟨⟨hr1, hr2⟩, hr⟩ := range op h1 h2
  unfold rightL at h
  simp only [Bool.and_eq_true] at h
  obtain ⟨⟨⟨⟨_, hd⟩, ha⟩, hb⟩, hn⟩ := h
  unfold gd ga gb gn
  rcases hr with (((hr | hr) | hr) | hr) | hr
  · obtain ⟨hf, hr⟩ := hr
    have hg : (formL op).f = 82 := by omega
    rw [hg] at hd ha hb hn ⊢
    have hd := rreg_t hd
    have ha := rreg_t ha
    have hb := rreg_t hb
    have hn : n = 0 := by simpa [rimmL] using hn
    rw [w82 _ _ _ _ _ hf, sum_R _ _ _ _ _ _ ⟨hr.1, hr.2.1⟩ hd ⟨hr1, hr2⟩ ha hb hr.2.2] at he
    have hw : 0 ≤ w ∧ w < 4294967296 := by omega
    have := (dig6 w _ _ _ _ _ _ hw ⟨hr.1, hr.2.1⟩ hd ⟨hr1, hr2⟩ ha hb hr.2.2).1 he
    rw [show hasD 82 = true from rfl, show hasA 82 = true from rfl, show hasB 82 = true from rfl, g_7, g_15, g_20]
    exact ⟨hw, this.2.1, this.2.2.2.1, this.2.2.2.2.1, by rw [hn]; rfl⟩
  · obtain ⟨hf, hr⟩ := hr
    rw [w72 _ _ _ _ _ hf] at he
    have hg : (formL op).f = 72 ∨ (formL op).f = 104 := by omega
    rcases hg with hg | hg
    · rw [hg] at hd ha hb hn ⊢
      have hd := rreg_t hd
      have ha := rreg_t ha
      have hb := rreg_f hb
      have hn : 0 ≤ n ∧ n ≤ 63 := by simpa [rimmL] using hn
      subst hb
      rw [sum_H _ _ _ _ _ _ ⟨hr.1, hr.2.1⟩ hd ⟨hr1, hr2⟩ ha hr.2.2] at he
      obtain ⟨hw, e1, e2, e3⟩ := dig5 w (rwC op).c rd (rwC op).f3 r1 (n + (rwC op).f7 * 32) ⟨hr.1, hr.2.1⟩ hd ⟨hr1, hr2⟩ ha (by omega) (by omega)
      rw [show hasD 72 = true from rfl, show hasA 72 = true from rfl, show hasB 72 = false from rfl, g_7, g_15, g_no, gi_H]
      exact ⟨hw, e1, e2, rfl, by omega⟩
    · rw [hg] at hd ha hb hn ⊢
      have hd := rreg_t hd
      have ha := rreg_t ha
      have hb := rreg_f hb
      have hn : 0 ≤ n ∧ n ≤ 31 := by simpa [rimmL] using hn
      subst hb
      rw [sum_H _ _ _ _ _ _ ⟨hr.1, hr.2.1⟩ hd ⟨hr1, hr2⟩ ha hr.2.2] at he
      obtain ⟨hw, e1, e2, e3⟩ := dig5 w (rwC op).c rd (rwC op).f3 r1 (n + (rwC op).f7 * 32) ⟨hr.1, hr.2.1⟩ hd ⟨hr1, hr2⟩ ha (by omega) (by omega)
      rw [show hasD 104 = true from rfl, show hasA 104 = true from rfl, show hasB 104 = false from rfl, g_7, g_15, g_no, gi_h]
      exact ⟨hw, e1, e2, rfl, by omega⟩
  · obtain ⟨hf, hr⟩ := hr
    rcases hf with (hf | hf) | hf
    · have hg : (formL op).f = 73 := by omega
      rw [hg] at hd ha hb hn ⊢
      have hd := rreg_t hd
      have ha := rreg_t ha
      have hb := rreg_f hb
      have hn : -2048 ≤ n ∧ n ≤ 2047 := by simpa [rimmL] using hn
      subst hb
      rw [w73 _ _ _ _ _ hf, sum_I _ _ _ _ _ hr hd ⟨hr1, hr2⟩ ha] at he
      obtain ⟨hw, e1, e2, e3⟩ := dig5 w (rwC op).c rd (rwC op).f3 r1 (n % 4096) hr hd ⟨hr1, hr2⟩ ha (by omega) he.symm
      rw [show hasD 73 = true from rfl, show hasA 73 = true from rfl, show hasB 73 = false from rfl, g_7, g_15, g_no, gi_I w hw, i_I w hw, e3]
      exact ⟨hw, e1, e2, rfl, by split <;> omega⟩
    · have hg : (formL op).f = 83 := by omega
      rw [hg] at hd ha hb hn ⊢
      have hd := rreg_f hd
      have ha := rreg_t ha
      have hb := rreg_t hb
      have hn : -2048 ≤ n ∧ n ≤ 2047 := by simpa [rimmL] using hn
      subst hd
      rw [w83 _ _ _ _ _ hf, sum_S _ _ _ _ _ hr ⟨hr1, hr2⟩ ha hb] at he
      have hw : 0 ≤ w ∧ w < 4294967296 := by omega
      have := (dig6 w _ (n % 32) _ _ _ (n / 32 % 128) hw hr (by omega) ⟨hr1, hr2⟩ ha hb (by omega)).1 he
      rw [show hasD 83 = false from rfl, show hasA 83 = true from rfl, show hasB 83 = true from rfl, g_no, g_15, g_20, gi_S w hw, i_S w hw, this.2.1, this.2.2.2.2.2]
      exact ⟨hw, rfl, this.2.2.2.1, this.2.2.2.2.1, by split <;> omega⟩
    · have hg : (formL op).f = 66 := by omega
      rw [hg] at hd ha hb hn ⊢
      have hd := rreg_f hd
      have ha := rreg_t ha
      have hb := rreg_t hb
      have hn : -4096 ≤ n ∧ n ≤ 4094 ∧ n.tmod 2 = 0 := by simpa [rimmL] using hn
      have hne := even_of hn.2.2
      subst hd
      rw [w66 _ _ _ _ _ hf, sum_B _ _ _ _ _ hr ⟨hr1, hr2⟩ ha hb] at he
      have b1 : 0 ≤ n / 2 % 16 ∧ n / 2 % 16 < 16 := by omega
      have b2 : 0 ≤ n / 32 % 64 ∧ n / 32 % 64 < 64 := by omega
      have b3 : 0 ≤ n / 2048 % 2 ∧ n / 2048 % 2 < 2 := by omega
      have b4 : 0 ≤ n / 4096 % 2 ∧ n / 4096 % 2 < 2 := by omega
      have fin := backB n (n / 2 % 16) (n / 32 % 64) (n / 2048 % 2) (n / 4096 % 2) ⟨hn.1, hn.2.1, hne⟩ rfl rfl rfl rfl
      generalize n / 2 % 16 = x1 at *
      generalize n / 32 % 64 = x2 at *
      generalize n / 2048 % 2 = x3 at *
      generalize n / 4096 % 2 = x4 at *
      have hw : 0 ≤ w ∧ w < 4294967296 := by omega
      have := (dig6 w _ (x3 + x1 * 2) _ _ _ (x2 + x4 * 64) hw hr (by omega) ⟨hr1, hr2⟩ ha hb (by omega)).1 he
      have hx := dwB w
      rw [this.2.1, this.2.2.2.2.2] at hx
      have y1 : w / 256 % 16 = x1 := by rw [hx.1]; omega
      have y2 : w / 33554432 % 64 = x2 := by rw [this.2.2.2.2.2]; omega
      have y3 : w / 128 % 2 = x3 := by rw [hx.2.1]; omega
      have y4 : w / 2147483648 = x4 := by rw [hx.2.2]; omega
      rw [show hasD 66 = false from rfl, show hasA 66 = true from rfl, show hasB 66 = true from rfl, g_no, g_15, g_20, gi_B w hw, i_B w hw]
      refine ⟨hw, rfl, this.2.2.2.1, this.2.2.2.2.1, ?_⟩
      unfold bV
      rw [y1, y2, y3, y4]
      exact fin
  · obtain ⟨hf, hr⟩ := hr
    rcases hf with hf | hf
    · have hg : (formL op).f = 85 := by omega
      rw [hg] at hd ha hb hn ⊢
      have hd := rreg_t hd
      have ha := rreg_f ha
      have hb := rreg_f hb
      have hn : -524288 ≤ n ∧ n ≤ 524287 := by simpa [rimmL] using hn
      subst ha
      subst hb
      rw [w85 _ _ _ _ _ hf, hr.2.2, sum_U _ _ _ ⟨hr.1, hr.2.1⟩ hd] at he
      have hw : 0 ≤ w ∧ w < 4294967296 := by omega
      have e1 : w / 4096 = n % 1048576 := by omega
      have e2 : w / 128 % 32 = rd := by omega
      rw [show hasD 85 = true from rfl, show hasA 85 = false from rfl, show hasB 85 = false from rfl, g_7, g_no, g_no, gi_U w hw, i_U w hw, e1]
      exact ⟨hw, e2, rfl, rfl, by split <;> omega⟩
    · have hg : (formL op).f = 74 := by omega
      rw [hg] at hd ha hb hn ⊢
      have hd := rreg_t hd
      have ha := rreg_f ha
      have hb := rreg_f hb
      have hn : -1048576 ≤ n ∧ n ≤ 1048574 ∧ n.tmod 2 = 0 := by simpa [rimmL] using hn
      have hne := even_of hn.2.2
      subst ha
      subst hb
      rw [w74 _ _ _ _ _ hf, hr.2.2, sum_J _ _ _ ⟨hr.1, hr.2.1⟩ hd] at he
      have b1 : 0 ≤ n / 4096 % 256 ∧ n / 4096 % 256 < 256 := by omega
      have b2 : 0 ≤ n / 2048 % 2 ∧ n / 2048 % 2 < 2 := by omega
      have b3 : 0 ≤ n / 2 % 1024 ∧ n / 2 % 1024 < 1024 := by omega
      have b4 : 0 ≤ n / 1048576 % 2 ∧ n / 1048576 % 2 < 2 := by omega
      have hx := dwJ w
      have fin := backJ n (n / 2 % 1024) (n / 2048 % 2) (n / 4096 % 256) (n / 1048576 % 2) ⟨hn.1, hn.2.1, hne⟩ rfl rfl rfl rfl
      generalize n / 4096 % 256 = x1 at *
      generalize n / 2048 % 2 = x2 at *
      generalize n / 2 % 1024 = x3 at *
      generalize n / 1048576 % 2 = x4 at *
      have hw : 0 ≤ w ∧ w < 4294967296 := by omega
      have e1 : w / 4096 = x1 + x2 * 256 + x3 * 512 + x4 * 524288 := by omega
      have e2 : w / 128 % 32 = rd := by omega
      obtain ⟨y1, y2, y3, y4⟩ := dwJ2 x1 x2 x3 x4 (w / 4096) b1 b2 b3 b4 e1
      rw [show hasD 74 = true from rfl, show hasA 74 = false from rfl, show hasB 74 = false from rfl, g_7, g_no, g_no, gi_J w hw, i_J w hw]
      refine ⟨hw, e2, rfl, rfl, ?_⟩
      unfold jV
      rw [hx.1, hx.2.1, hx.2.2, y1, y2, y3, y4]
      exact fin
  · obtain ⟨hf, hr⟩ := hr
    have hg : (formL op).f = 78 := by omega
    rw [hg] at hd ha hb hn ⊢
    have hd := rreg_f hd
    have ha := rreg_f ha
    have hb := rreg_f hb
    have hn : n = 0 := by simpa [rimmL] using hn
    subst hd
    subst ha
    subst hb
    rw [w78 _ _ hf hr.2.2 ⟨hr.1, hr.2.1⟩] at he
    rw [show hasD 78 = false from rfl, show hasA 78 = false from rfl, show hasB 78 = false from rfl, g_no, g_no, g_no]
    exact ⟨by omega, rfl, rfl, rfl, by rw [hn]; rfl⟩
end Go.Vm.Rv
