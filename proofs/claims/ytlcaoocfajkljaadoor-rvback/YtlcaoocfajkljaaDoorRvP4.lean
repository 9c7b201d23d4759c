import Derived.Test.YtlcaoocfajkljaaDoorRvP3
namespace Go.Vm.Rv
set_option maxRecDepth 10000
theorem dig6 (w c x1 f3 r1 r2 x2 : Int) (hw : 0 ≤ w ∧ w < 4294967296) (hc : 0 ≤ c ∧ c < 128) (h0 : 0 ≤ x1 ∧ x1 < 32) (h1 : 0 ≤ f3 ∧ f3 < 8) (h2 : 0 ≤ r1 ∧ r1 < 32) (h3 : 0 ≤ r2 ∧ r2 < 32) (h4 : 0 ≤ x2 ∧ x2 < 128) :
    c + x1 * 128 + f3 * 4096 + r1 * 32768 + r2 * 1048576 + x2 * 33554432 = w ↔ w % 128 = c ∧ w / 128 % 32 = x1 ∧ w / 4096 % 8 = f3 ∧ w / 32768 % 32 = r1 ∧ w / 1048576 % 32 = r2 ∧ w / 33554432 = x2 := by
  constructor
  · intro h; subst h; omega
  · omega
theorem digB (a b c d n : Int) (h1 : 0 ≤ a ∧ a < 16) (h2 : 0 ≤ b ∧ b < 64) (h3 : 0 ≤ c ∧ c < 2) (h4 : 0 ≤ d ∧ d < 2) (hn : n = if a * 2 + b * 32 + c * 2048 + d * 4096 < 4096 then a * 2 + b * 32 + c * 2048 + d * 4096 else a * 2 + b * 32 + c * 2048 + d * 4096 - 8192) :
    (n / 2048 % 2 = c ∧ n / 2 % 16 = a ∧ n / 32 % 64 = b ∧ n / 4096 % 2 = d) ∧ -4096 ≤ n ∧ n ≤ 4094 ∧ n.tmod 2 = 0 := by
  have he : n % 2 = 0 ∧ (n / 2048 % 2 = c ∧ n / 2 % 16 = a ∧ n / 32 % 64 = b ∧ n / 4096 % 2 = d) ∧ -4096 ≤ n ∧ n ≤ 4094 := by
    split at hn <;> subst hn <;> omega
  exact ⟨he.2.1, he.2.2.1, he.2.2.2, Int.tmod_eq_zero_of_dvd (Int.dvd_of_emod_eq_zero he.1)⟩
theorem digJ (a b c d n : Int) (h1 : 0 ≤ a ∧ a < 1024) (h2 : 0 ≤ b ∧ b < 2) (h3 : 0 ≤ c ∧ c < 256) (h4 : 0 ≤ d ∧ d < 2) (hn : n = if a * 2 + b * 2048 + c * 4096 + d * 1048576 < 1048576 then a * 2 + b * 2048 + c * 4096 + d * 1048576 else a * 2 + b * 2048 + c * 4096 + d * 1048576 - 2097152) :
    (n / 2 % 1024 = a ∧ n / 2048 % 2 = b ∧ n / 4096 % 256 = c ∧ n / 1048576 % 2 = d) ∧ -1048576 ≤ n ∧ n ≤ 1048574 ∧ n.tmod 2 = 0 := by
  have he : n % 2 = 0 ∧ (n / 2 % 1024 = a ∧ n / 2048 % 2 = b ∧ n / 4096 % 256 = c ∧ n / 1048576 % 2 = d) ∧ -1048576 ≤ n ∧ n ≤ 1048574 := by
    split at hn <;> subst hn <;> omega
  exact ⟨he.2.1, he.2.2.1, he.2.2.2, Int.tmod_eq_zero_of_dvd (Int.dvd_of_emod_eq_zero he.1)⟩
/-- The parts of a guess. -/
def gd (op w : Int) : Int := gfL (hasD (formL op).f) w 7
def ga (op w : Int) : Int := gfL (hasA (formL op).f) w 15
def gb (op w : Int) : Int := gfL (hasB (formL op).f) w 20
def gn (op w : Int) : Int := gimmL (formL op).f w
theorem rreg_ok (r : Int) (h : 0 ≤ r ∧ r < 32) : rregL r true = true := by simp [rregL]; omega
theorem rreg_no : rregL 0 false = true := rfl
theorem gf_7 (b : Bool) (w : Int) : rregL (gfL b w 7) b = true := by
  cases b with
  | false => rfl
  | true => exact rreg_ok _ (by rw [g_7]; omega)
theorem gf_15 (b : Bool) (w : Int) : rregL (gfL b w 15) b = true := by
  cases b with
  | false => rfl
  | true => exact rreg_ok _ (by rw [g_15]; omega)
theorem gf_20 (b : Bool) (w : Int) : rregL (gfL b w 20) b = true := by
  cases b with
  | false => rfl
  | true => exact rreg_ok _ (by rw [g_20]; omega)
theorem immS (w : Int) (hw : 0 ≤ w ∧ w < 4294967296) : -2048 ≤ immL 83 w ∧ immL 83 w ≤ 2047 ∧ immL 83 w % 32 = w / 128 % 32 ∧ immL 83 w / 32 % 128 = w / 33554432 := by
  rw [i_S w hw]; split <;> omega
theorem immI (w : Int) (hw : 0 ≤ w ∧ w < 4294967296) : -2048 ≤ immL 73 w ∧ immL 73 w ≤ 2047 ∧ immL 73 w % 4096 = w / 1048576 := by
  rw [i_I w hw]; split <;> omega
theorem immU (w : Int) (hw : 0 ≤ w ∧ w < 4294967296) : -524288 ≤ immL 85 w ∧ immL 85 w ≤ 524287 ∧ immL 85 w % 1048576 = w / 4096 := by
  rw [i_U w hw]; split <;> omega
theorem immB (w : Int) (hw : 0 ≤ w ∧ w < 4294967296) : (immL 66 w / 2048 % 2 = w / 128 % 2 ∧ immL 66 w / 2 % 16 = w / 256 % 16 ∧ immL 66 w / 32 % 64 = w / 33554432 % 64 ∧ immL 66 w / 4096 % 2 = w / 2147483648) ∧ -4096 ≤ immL 66 w ∧ immL 66 w ≤ 4094 ∧ (immL 66 w).tmod 2 = 0 := digB (w / 256 % 16) (w / 33554432 % 64) (w / 128 % 2) (w / 2147483648) (immL 66 w) (by omega) (by omega) (by omega) (by omega) (i_B w hw)
theorem immJ (w : Int) (hw : 0 ≤ w ∧ w < 4294967296) : (immL 74 w / 2 % 1024 = w / 2097152 % 1024 ∧ immL 74 w / 2048 % 2 = w / 1048576 % 2 ∧ immL 74 w / 4096 % 256 = w / 4096 % 256 ∧ immL 74 w / 1048576 % 2 = w / 2147483648) ∧ -1048576 ≤ immL 74 w ∧ immL 74 w ≤ 1048574 ∧ (immL 74 w).tmod 2 = 0 := digJ (w / 2097152 % 1024) (w / 1048576 % 2) (w / 4096 % 256) (w / 2147483648) (immL 74 w) (by omega) (by omega) (by omega) (by omega) (i_J w hw)
/-- A guess is right. -/
theorem guess_right (op w : Int) (h1 : 1 ≤ op) (h2 : op ≤ 65) (hw : 0 ≤ w ∧ w < 4294967296) : rightL op (gd op w) (ga op w) (gb op w) (gn op w) = true := by
  obtain ⟨hs, _⟩ := same op h1 h2
  have hr := range op h1 h2
  unfold rightL gd ga gb
  rw [gf_7, gf_15, gf_20]
  unfold gn
  generalize (formL op).f = g at *
  generalize (rwC op).f = f at *
  simp only [Bool.and_true, Bool.and_eq_true, decide_eq_true_eq]
  have hg : g = 82 ∨ g = 72 ∨ g = 104 ∨ g = 73 ∨ g = 83 ∨ g = 66 ∨ g = 85 ∨ g = 74 ∨ g = 78 := by omega
  refine ⟨by omega, ?_⟩
  rcases hg with rfl | rfl | rfl | rfl | rfl | rfl | rfl | rfl | rfl
  · rfl
  · have : rimmL 72 (gimmL 72 w) = decide (0 ≤ gimmL 72 w ∧ gimmL 72 w ≤ 63) := rfl
    rw [this, gi_H]; simp; omega
  · have : rimmL 104 (gimmL 104 w) = decide (0 ≤ gimmL 104 w ∧ gimmL 104 w ≤ 31) := rfl
    rw [this, gi_h]; simp; omega
  · have : rimmL 73 (gimmL 73 w) = decide (-2048 ≤ gimmL 73 w ∧ gimmL 73 w ≤ 2047) := rfl
    have := immI w hw
    rw [gi_I w hw] at *; simp [*]
  · have : rimmL 83 (gimmL 83 w) = decide (-2048 ≤ gimmL 83 w ∧ gimmL 83 w ≤ 2047) := rfl
    have := immS w hw
    rw [gi_S w hw] at *; simp [*]
  · have : rimmL 66 (gimmL 66 w) = decide (-4096 ≤ gimmL 66 w ∧ gimmL 66 w ≤ 4094 ∧ (gimmL 66 w).tmod 2 = 0) := rfl
    have := immB w hw
    rw [gi_B w hw] at *; simp only [*, decide_true]; simp
  · have : rimmL 85 (gimmL 85 w) = decide (-524288 ≤ gimmL 85 w ∧ gimmL 85 w ≤ 524287) := rfl
    have := immU w hw
    rw [gi_U w hw] at *; simp [*]
  · have : rimmL 74 (gimmL 74 w) = decide (-1048576 ≤ gimmL 74 w ∧ gimmL 74 w ≤ 1048574 ∧ (gimmL 74 w).tmod 2 = 0) := rfl
    have := immJ w hw
    rw [gi_J w hw] at *; simp only [*, decide_true]; simp
  · rfl
end Go.Vm.Rv
