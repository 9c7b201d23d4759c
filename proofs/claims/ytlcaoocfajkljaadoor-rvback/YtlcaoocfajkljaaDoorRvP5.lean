import Derived.Test.YtlcaoocfajkljaaDoorRvP4
namespace Go.Vm.Rv
set_option maxRecDepth 10000
section
variable (r : Rw) (rd r1 r2 n w : Int)
theorem w82 (h : r.f = 82) : wordL r rd r1 r2 n = orU (baseL r.c r.f3 rd r1 r2) (shU r.f7 25) := by simp [wordL, baseL, h]
theorem w73 (h : r.f = 73) : wordL r rd r1 r2 n = orU (baseL r.c r.f3 rd r1 r2) (bitsL (u32 n) 0 12 20) := by simp [wordL, baseL, h]
theorem w72 (h : r.f = 72) : wordL r rd r1 r2 n = orU (baseL r.c r.f3 rd r1 r2) (orU (shU r.f7 25) (bitsL (u32 n) 0 6 20)) := by simp [wordL, baseL, h]
theorem w83 (h : r.f = 83) : wordL r rd r1 r2 n = orU (baseL r.c r.f3 rd r1 r2) (orU (bitsL (u32 n) 0 5 7) (bitsL (u32 n) 5 7 25)) := by simp [wordL, baseL, h]
theorem w66 (h : r.f = 66) : wordL r rd r1 r2 n = orU (baseL r.c r.f3 rd r1 r2) (orU (orU (orU (bitsL (u32 n) 11 1 7) (bitsL (u32 n) 1 4 8)) (bitsL (u32 n) 5 6 25)) (bitsL (u32 n) 12 1 31)) := by simp [wordL, baseL, h]
theorem w85 (h : r.f = 85) : wordL r rd r1 r2 n = orU (baseL r.c r.f3 rd r1 r2) (bitsL (u32 n) 0 20 12) := by simp [wordL, baseL, h]
theorem w74 (h : r.f = 74) : wordL r rd r1 r2 n = orU (baseL r.c r.f3 rd r1 r2) (orU (orU (orU (bitsL (u32 n) 12 8 12) (bitsL (u32 n) 11 1 20)) (bitsL (u32 n) 1 10 21)) (bitsL (u32 n) 20 1 31)) := by simp [wordL, baseL, h]
theorem w78 (h : r.f = 78) (hf : r.f3 = 0) (hc : 0 ≤ r.c ∧ r.c < 4294967296) : wordL r 0 0 0 n = r.c := by
  have : wordL r 0 0 0 n = baseL r.c r.f3 0 0 0 := by simp [wordL, baseL, h]
  rw [this, hf, base_or _ _ _ _ _ (by decide) (by decide) (by decide) (by decide)]
  simp only [Int.zero_mul]
  rw [orU_zero _ hc, orU_zero _ hc, orU_zero _ hc, orU_zero _ hc]
theorem f82 (h : r.f = 82) : fitsL r w = decide (w / 33554432 = r.f7 ∧ w % 128 = r.c ∧ w / 4096 % 8 = r.f3) := by
  simp only [fitsL, h, sr_25, sr_12, an_7, an_3]; rw [Bool.eq_iff_iff]; simp
theorem f72 (h : r.f = 72) (hw : 0 ≤ w ∧ w < 4294967296) : fitsL r w = decide ((if r.c = 27 then w / 33554432 else w / 67108864 * 2) = r.f7 ∧ w % 128 = r.c ∧ w / 4096 % 8 = r.f3) := by
  have e : w / 67108864 * 2 % 4294967296 = w / 67108864 * 2 := by omega
  simp only [fitsL, h, sr_25, sr_26, sl_1, sr_12, an_7, an_3, e]; rw [Bool.eq_iff_iff]; simp
theorem fISB (h : r.f = 73 ∨ r.f = 83 ∨ r.f = 66) : fitsL r w = decide (w % 128 = r.c ∧ w / 4096 % 8 = r.f3) := by
  rcases h with h | h | h <;> (simp only [fitsL, h, sr_12, an_7, an_3]; rw [Bool.eq_iff_iff]; simp)
theorem fUJ (h : r.f = 85 ∨ r.f = 74) : fitsL r w = decide (w % 128 = r.c) := by
  rcases h with h | h <;> (simp only [fitsL, h, sr_12, an_7, an_3]; rw [Bool.eq_iff_iff]; simp)
theorem f78 (h : r.f = 78) : fitsL r w = decide (w = r.c) := by simp [fitsL, h]
end
theorem shift_all (op : Int) (h1 : 1 ≤ op) (h2 : op ≤ 65) : ((rwC op).f = 72 → ((rwC op).c = 27 ↔ 32 ≤ op)) := all_ops (p := fun op => (rwC op).f = 72 → ((rwC op).c = 27 ↔ 32 ≤ op)) (by decide +kernel) op h1 h2
theorem cR (w c f3 f7 : Int) (hw : 0 ≤ w ∧ w < 4294967296) (hc : 0 ≤ c ∧ c < 128) (h1 : 0 ≤ f3 ∧ f3 < 8) (h4 : 0 ≤ f7 ∧ f7 < 128) : (w / 33554432 = f7 ∧ w % 128 = c ∧ w / 4096 % 8 = f3) ↔ c + w / 128 % 32 * 128 + f3 * 4096 + w / 32768 % 32 * 32768 + w / 1048576 % 32 * 1048576 + f7 * 33554432 = w := by
  rw [dig6 w c (w / 128 % 32) f3 (w / 32768 % 32) (w / 1048576 % 32) f7 hw hc (by omega) h1 (by omega) (by omega) h4]
  constructor
  · intro h; exact ⟨h.2.1, rfl, h.2.2, rfl, rfl, h.1⟩
  · intro h; exact ⟨h.2.2.2.2.2, h.1, h.2.2.1⟩
theorem cAll (w c f3 : Int) (hw : 0 ≤ w ∧ w < 4294967296) (hc : 0 ≤ c ∧ c < 128) (h1 : 0 ≤ f3 ∧ f3 < 8) : (w % 128 = c ∧ w / 4096 % 8 = f3) ↔ c + w / 128 % 32 * 128 + f3 * 4096 + w / 32768 % 32 * 32768 + w / 1048576 % 32 * 1048576 + w / 33554432 * 33554432 = w := by
  rw [dig6 w c (w / 128 % 32) f3 (w / 32768 % 32) (w / 1048576 % 32) (w / 33554432) hw hc (by omega) h1 (by omega) (by omega) (by omega)]
  constructor
  · intro h; exact ⟨h.1, rfl, h.2, rfl, rfl, rfl⟩
  · intro h; exact ⟨h.1, h.2.2.1⟩
theorem eI (w : Int) (hw : 0 ≤ w ∧ w < 4294967296) : w / 1048576 * 1048576 = w / 1048576 % 32 * 1048576 + w / 33554432 * 33554432 := by omega
theorem eB1 (w : Int) : w / 128 % 2 + w / 256 % 16 * 2 = w / 128 % 32 := by omega
theorem eB2 (w : Int) (hw : 0 ≤ w ∧ w < 4294967296) : w / 33554432 % 64 + w / 2147483648 * 64 = w / 33554432 := by omega
theorem eJ (w : Int) : w / 4096 % 256 * 4096 + w / 1048576 % 2 * 1048576 + w / 2097152 % 1024 * 2097152 + w / 2147483648 * 2147483648 = w / 4096 * 4096 := by
  have h1 : w / 1048576 = w / 4096 / 256 := by omega
  have h2 : w / 2097152 = w / 4096 / 256 / 2 := by omega
  have h3 : w / 2147483648 = w / 4096 / 256 / 2 / 1024 := by omega
  rw [h1, h2, h3]
  generalize w / 4096 = u
  have a1 : u = u % 256 + u / 256 * 256 := by omega
  generalize u / 256 = v at *
  have a2 : v = v % 2 + v / 2 * 2 := by omega
  generalize v / 2 = x at *
  have a3 : x = x % 1024 + x / 1024 * 1024 := by omega
  omega
theorem cU (w c : Int) (hw : 0 ≤ w ∧ w < 4294967296) (hc : 0 ≤ c ∧ c < 128) : w % 128 = c ↔ c + w / 128 % 32 * 128 + w / 4096 * 4096 = w := by omega
theorem eH (w : Int) : w / 67108864 = w / 1048576 / 64 := by omega
theorem eH2 (w : Int) : w / 33554432 = w / 1048576 / 32 := by omega
theorem eW (w : Int) : w = w % 128 + w / 128 % 32 * 128 + w / 4096 % 8 * 4096 + w / 32768 % 32 * 32768 + w / 1048576 * 1048576 := by
  have h1 : w / 4096 = w / 128 / 32 := by omega
  have h2 : w / 32768 = w / 128 / 32 / 8 := by omega
  have h3 : w / 1048576 = w / 128 / 32 / 8 / 32 := by omega
  rw [h1, h2, h3]
  have a0 : w = w % 128 + w / 128 * 128 := by omega
  generalize w / 128 = u at *
  have a1 : u = u % 32 + u / 32 * 32 := by omega
  generalize u / 32 = v at *
  have a2 : v = v % 8 + v / 8 * 8 := by omega
  generalize v / 8 = x at *
  omega
theorem cH1 (w c f3 f7 : Int) (hw : 0 ≤ w ∧ w < 4294967296) (hc : 0 ≤ c ∧ c < 128) (h1 : 0 ≤ f3 ∧ f3 < 8) (h4 : f7 = 0 ∨ f7 = 32) : (w / 67108864 * 2 = f7 ∧ w % 128 = c ∧ w / 4096 % 8 = f3) ↔ c + w / 128 % 32 * 128 + f3 * 4096 + w / 32768 % 32 * 32768 + w / 1048576 % 64 % 64 * 1048576 + f7 * 33554432 = w := by
  have hl : ∀ X, X = w → X % 128 = w % 128 ∧ X / 4096 % 8 = w / 4096 % 8 ∧ X / 67108864 = w / 67108864 := fun X h => by subst h; exact ⟨rfl, rfl, rfl⟩
  have e := eW w
  have e2 := eH w
  have b1 : 0 ≤ w / 128 % 32 ∧ w / 128 % 32 < 32 := by omega
  have b2 : 0 ≤ w / 32768 % 32 ∧ w / 32768 % 32 < 32 := by omega
  generalize w / 128 % 32 = x1 at *
  generalize w / 32768 % 32 = x2 at *
  have e3 : w / 1048576 = w / 1048576 % 64 + w / 1048576 / 64 * 64 := by omega
  rw [← e2] at e3
  have b3 : 0 ≤ w / 1048576 % 64 ∧ w / 1048576 % 64 < 64 := by omega
  rw [show w / 1048576 % 64 % 64 = w / 1048576 % 64 by omega]
  generalize w / 1048576 % 64 = x3 at *
  generalize hx : w / 67108864 = x4 at *
  constructor
  · rintro ⟨h1, h2, h3⟩
    rw [h2, h3] at e
    omega
  · intro h
    have hh := hl _ h
    rw [← hh.1, ← hh.2.1, ← hh.2.2]
    omega
theorem cH2 (w c f3 f7 : Int) (hw : 0 ≤ w ∧ w < 4294967296) (hc : 0 ≤ c ∧ c < 128) (h1 : 0 ≤ f3 ∧ f3 < 8) (h4 : f7 = 0 ∨ f7 = 32) : (w / 33554432 = f7 ∧ w % 128 = c ∧ w / 4096 % 8 = f3) ↔ c + w / 128 % 32 * 128 + f3 * 4096 + w / 32768 % 32 * 32768 + w / 1048576 % 32 % 64 * 1048576 + f7 * 33554432 = w := by
  rw [show w / 1048576 % 32 % 64 = w / 1048576 % 32 by omega]
  exact cR w c f3 f7 hw hc h1 (by omega)
/-- What fits is the guess' word. -/
theorem fits_word (op w : Int) (h1 : 1 ≤ op) (h2 : op ≤ 65) (hw : 0 ≤ w ∧ w < 4294967296) : fitsL (rwC op) w = decide (wordL (rwC op) (gd op w) (ga op w) (gb op w) (gn op w) = w) := by
  obtain ⟨hs, _⟩ := same op h1 h2
  have hr := range op h1 h2
  have ht := shift_all op h1 h2
  unfold gd ga gb gn
  obtain ⟨⟨hr1, hr2⟩, hr⟩ := hr
  rcases hr with (((hr | hr) | hr) | hr) | hr
  · obtain ⟨hf, hr⟩ := hr
    have hg : (formL op).f = 82 := by omega
    rw [f82 _ _ hf, w82 _ _ _ _ _ hf, hg, show hasD 82 = true from rfl, show hasA 82 = true from rfl, show hasB 82 = true from rfl, g_7, g_15, g_20, sum_R _ _ _ _ _ _ ⟨hr.1, hr.2.1⟩ (by omega) ⟨hr1, hr2⟩ (by omega) (by omega) hr.2.2]
    rw [decide_eq_decide]; exact cR w _ _ _ hw ⟨hr.1, hr.2.1⟩ ⟨hr1, hr2⟩ hr.2.2
  · obtain ⟨hf, hr⟩ := hr
    have ht := ht hf
    rw [f72 _ _ hf hw, w72 _ _ _ _ _ hf]
    by_cases ho : 32 ≤ op
    · have hg : (formL op).f = 104 := by omega
      rw [hg, show hasD 104 = true from rfl, show hasA 104 = true from rfl, show hasB 104 = false from rfl, g_7, g_15, g_no, gi_h, sum_H _ _ _ _ _ _ ⟨hr.1, hr.2.1⟩ (by omega) ⟨hr1, hr2⟩ (by omega) hr.2.2, if_pos (ht.2 ho)]
      rw [decide_eq_decide]; exact cH2 w _ _ _ hw ⟨hr.1, hr.2.1⟩ ⟨hr1, hr2⟩ hr.2.2
    · have hg : (formL op).f = 72 := by omega
      rw [hg, show hasD 72 = true from rfl, show hasA 72 = true from rfl, show hasB 72 = false from rfl, g_7, g_15, g_no, gi_H, sum_H _ _ _ _ _ _ ⟨hr.1, hr.2.1⟩ (by omega) ⟨hr1, hr2⟩ (by omega) hr.2.2, if_neg (fun h => ho (ht.1 h))]
      rw [decide_eq_decide]; exact cH1 w _ _ _ hw ⟨hr.1, hr.2.1⟩ ⟨hr1, hr2⟩ hr.2.2
  · obtain ⟨hf, hr⟩ := hr
    rw [fISB _ _ (by omega)]
    rcases hf with (hf | hf) | hf
    · have hg : (formL op).f = 73 := by omega
      have hi := immI w hw
      rw [w73 _ _ _ _ _ hf, hg, show hasD 73 = true from rfl, show hasA 73 = true from rfl, show hasB 73 = false from rfl, g_7, g_15, g_no, gi_I w hw, sum_I _ _ _ _ _ hr (by omega) ⟨hr1, hr2⟩ (by omega), hi.2.2, eI w hw, ← Int.add_assoc]
      rw [decide_eq_decide]; exact cAll w _ _ hw hr ⟨hr1, hr2⟩
    · have hg : (formL op).f = 83 := by omega
      have hi := immS w hw
      rw [w83 _ _ _ _ _ hf, hg, show hasD 83 = false from rfl, show hasA 83 = true from rfl, show hasB 83 = true from rfl, g_no, g_15, g_20, gi_S w hw, sum_S _ _ _ _ _ hr ⟨hr1, hr2⟩ (by omega) (by omega), hi.2.2.1, hi.2.2.2]
      rw [decide_eq_decide]; exact cAll w _ _ hw hr ⟨hr1, hr2⟩
    · have hg : (formL op).f = 66 := by omega
      obtain ⟨⟨a, b, c, d⟩, _⟩ := immB w hw
      rw [w66 _ _ _ _ _ hf, hg, show hasD 66 = false from rfl, show hasA 66 = true from rfl, show hasB 66 = true from rfl, g_no, g_15, g_20, gi_B w hw, sum_B _ _ _ _ _ hr ⟨hr1, hr2⟩ (by omega) (by omega), a, b, c, d, eB1, eB2 w hw]
      rw [decide_eq_decide]; exact cAll w _ _ hw hr ⟨hr1, hr2⟩
  · obtain ⟨hf, hr⟩ := hr
    rw [fUJ _ _ hf]
    rcases hf with hf | hf
    · have hg : (formL op).f = 85 := by omega
      have hi := immU w hw
      rw [w85 _ _ _ _ _ hf, hg, show hasD 85 = true from rfl, show hasA 85 = false from rfl, show hasB 85 = false from rfl, g_7, g_no, g_no, gi_U w hw, hr.2.2, sum_U _ _ _ ⟨hr.1, hr.2.1⟩ (by omega), hi.2.2]
      rw [decide_eq_decide]; exact cU w _ hw ⟨hr.1, hr.2.1⟩
    · have hg : (formL op).f = 74 := by omega
      obtain ⟨⟨a, b, c, d⟩, _⟩ := immJ w hw
      rw [w74 _ _ _ _ _ hf, hg, show hasD 74 = true from rfl, show hasA 74 = false from rfl, show hasB 74 = false from rfl, g_7, g_no, g_no, gi_J w hw, hr.2.2, sum_J _ _ _ ⟨hr.1, hr.2.1⟩ (by omega), a, b, c, d]
      have := eJ w
      have := cU w (rwC op).c hw ⟨hr.1, hr.2.1⟩
      rw [decide_eq_decide]; omega
  · obtain ⟨hf, hr⟩ := hr
    have hg : (formL op).f = 78 := by omega
    rw [f78 _ _ hf, hg, show hasD 78 = false from rfl, show hasA 78 = false from rfl, show hasB 78 = false from rfl, g_no, g_no, g_no, w78 _ _ hf hr.2.2 ⟨hr.1, hr.2.1⟩]
    rw [decide_eq_decide]; omega
end Go.Vm.Rv
