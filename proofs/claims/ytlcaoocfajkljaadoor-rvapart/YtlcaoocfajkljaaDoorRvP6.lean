import Derived.Test.YtlcaoocfajkljaaDoorRvP
set_option linter.unusedSimpArgs false
set_option linter.unusedVariables false
/- Words as sums of their fields. -/
namespace Go.Vm.Rv
set_option maxRecDepth 10000
theorem orU_zero (a : Int) (h : 0 ≤ a ∧ a < 4294967296) : orU a 0 = a := by
  have := orU_add 32 a 0 h.1 (by simpa using h.2) (by decide) (by decide) (by decide) h.2
  omega
theorem sum6 (c lo f3 r1 r2 hi : Int) (hc : 0 ≤ c ∧ c < 128) (h0 : 0 ≤ lo ∧ lo < 32) (h1 : 0 ≤ f3 ∧ f3 < 8) (h2 : 0 ≤ r1 ∧ r1 < 32) (h3 : 0 ≤ r2 ∧ r2 < 32) (h4 : 0 ≤ hi ∧ hi < 128) :
    orU (orU (orU (orU (orU c (lo * 128)) (f3 * 4096)) (r1 * 32768)) (r2 * 1048576)) (hi * 33554432) = c + lo * 128 + f3 * 4096 + r1 * 32768 + r2 * 1048576 + hi * 33554432 := by
  rw [orU_add 7 c (lo * 128) (by omega) (by omega) (by omega) (by omega) (by omega) (by omega)]
  rw [orU_add 12 _ (f3 * 4096) (by omega) (by omega) (by omega) (by omega) (by omega) (by omega)]
  rw [orU_add 15 _ (r1 * 32768) (by omega) (by omega) (by omega) (by omega) (by omega) (by omega)]
  rw [orU_add 20 _ (r2 * 1048576) (by omega) (by omega) (by omega) (by omega) (by omega) (by omega)]
  rw [orU_add 25 _ (hi * 33554432) (by omega) (by omega) (by omega) (by omega) (by omega) (by omega)]
/-- The part that all forms share. -/
def baseL (c f3 rd r1 r2 : Int) : Int := orU (orU (orU (orU c (shU f3 12)) (shU (u32 rd) 7)) (shU (u32 r1) 15)) (shU (u32 r2) 20)
theorem base_or (c f3 rd r1 r2 : Int) (h0 : 0 ≤ rd ∧ rd < 32) (h1 : 0 ≤ f3 ∧ f3 < 8) (h2 : 0 ≤ r1 ∧ r1 < 32) (h3 : 0 ≤ r2 ∧ r2 < 32) :
    baseL c f3 rd r1 r2 = orU (orU (orU (orU c (rd * 128)) (f3 * 4096)) (r1 * 32768)) (r2 * 1048576) := by
  unfold baseL u32
  rw [sh_12, sh_7, sh_15, sh_20, u32w (by omega), u32w (by omega), u32w (by omega), Int.emod_eq_of_lt (a := f3 * 4096) (by omega) (by omega), Int.emod_eq_of_lt (a := rd * 128) (by omega) (by omega), Int.emod_eq_of_lt (a := r1 * 32768) (by omega) (by omega), Int.emod_eq_of_lt (a := r2 * 1048576) (by omega) (by omega)]
  ac_rfl
theorem base_sum (c f3 rd r1 r2 : Int) (hc : 0 ≤ c ∧ c < 128) (h0 : 0 ≤ rd ∧ rd < 32) (h1 : 0 ≤ f3 ∧ f3 < 8) (h2 : 0 ≤ r1 ∧ r1 < 32) (h3 : 0 ≤ r2 ∧ r2 < 32) :
    baseL c f3 rd r1 r2 = c + rd * 128 + f3 * 4096 + r1 * 32768 + r2 * 1048576 := by
  rw [base_or c f3 rd r1 r2 h0 h1 h2 h3, orU_add 7 c (rd * 128) (by omega) (by omega) (by omega) (by omega) (by omega) (by omega),
    orU_add 12 _ (f3 * 4096) (by omega) (by omega) (by omega) (by omega) (by omega) (by omega),
    orU_add 15 _ (r1 * 32768) (by omega) (by omega) (by omega) (by omega) (by omega) (by omega),
    orU_add 20 _ (r2 * 1048576) (by omega) (by omega) (by omega) (by omega) (by omega) (by omega)]
theorem sum_R (c f3 rd r1 r2 f7 : Int) (hc : 0 ≤ c ∧ c < 128) (h0 : 0 ≤ rd ∧ rd < 32) (h1 : 0 ≤ f3 ∧ f3 < 8) (h2 : 0 ≤ r1 ∧ r1 < 32) (h3 : 0 ≤ r2 ∧ r2 < 32) (h4 : 0 ≤ f7 ∧ f7 < 128) :
    orU (baseL c f3 rd r1 r2) (shU f7 25) = c + rd * 128 + f3 * 4096 + r1 * 32768 + r2 * 1048576 + f7 * 33554432 := by
  rw [base_sum c f3 rd r1 r2 hc h0 h1 h2 h3, sh_25, orU_add 25 _ _ (by omega) (by omega) (by omega) (by omega) (by omega) (by omega)]
  omega
theorem sum_I (c f3 rd r1 n : Int) (hc : 0 ≤ c ∧ c < 128) (h0 : 0 ≤ rd ∧ rd < 32) (h1 : 0 ≤ f3 ∧ f3 < 8) (h2 : 0 ≤ r1 ∧ r1 < 32) :
    orU (baseL c f3 rd r1 0) (bitsL (u32 n) 0 12 20) = c + rd * 128 + f3 * 4096 + r1 * 32768 + n % 4096 * 1048576 := by
  rw [base_sum c f3 rd r1 0 hc h0 h1 h2 (by decide), b_0_12_20, u32, u32m, orU_add 20 _ _ (by omega) (by omega) (by omega) (by omega) (by omega) (by omega)]
  omega
theorem sum_H (c f3 rd r1 f7 n : Int) (hc : 0 ≤ c ∧ c < 128) (h0 : 0 ≤ rd ∧ rd < 32) (h1 : 0 ≤ f3 ∧ f3 < 8) (h2 : 0 ≤ r1 ∧ r1 < 32) (h4 : f7 = 0 ∨ f7 = 32) :
    orU (baseL c f3 rd r1 0) (orU (shU f7 25) (bitsL (u32 n) 0 6 20)) = c + rd * 128 + f3 * 4096 + r1 * 32768 + n % 64 * 1048576 + f7 * 33554432 := by
  rw [base_sum c f3 rd r1 0 hc h0 h1 h2 (by decide), sh_25, b_0_6_20, u32, u32m, orU_comm (f7 * 33554432 % 4294967296), orU_add 30 _ (f7 * 33554432 % 4294967296) (by omega) (by omega) (by omega) (by omega) (by omega) (by omega), orU_add 20 _ _ (by omega) (by omega) (by omega) (by omega) (by omega) (by omega)]
  omega
theorem sum_S (c f3 r1 r2 n : Int) (hc : 0 ≤ c ∧ c < 128) (h1 : 0 ≤ f3 ∧ f3 < 8) (h2 : 0 ≤ r1 ∧ r1 < 32) (h3 : 0 ≤ r2 ∧ r2 < 32) :
    orU (baseL c f3 0 r1 r2) (orU (bitsL (u32 n) 0 5 7) (bitsL (u32 n) 5 7 25)) = c + n % 32 * 128 + f3 * 4096 + r1 * 32768 + r2 * 1048576 + n / 32 % 128 * 33554432 := by
  have e1 : bitsL (u32 n) 0 5 7 = n % 32 * 128 := by rw [b_0_5_7, u32, u32m]; omega
  have e2 : bitsL (u32 n) 5 7 25 = n / 32 % 128 * 33554432 := by rw [b_5_7_25, u32, u32m]; omega
  rw [base_or c f3 0 r1 r2 (by decide) h1 h2 h3, e1, e2, Int.zero_mul, orU_zero c (by omega), ← sum6 c (n % 32) f3 r1 r2 (n / 32 % 128) hc (by omega) h1 h2 h3 (by omega)]
  ac_rfl
theorem sum_B (c f3 r1 r2 n : Int) (hc : 0 ≤ c ∧ c < 128) (h1 : 0 ≤ f3 ∧ f3 < 8) (h2 : 0 ≤ r1 ∧ r1 < 32) (h3 : 0 ≤ r2 ∧ r2 < 32) :
    orU (baseL c f3 0 r1 r2) (orU (orU (orU (bitsL (u32 n) 11 1 7) (bitsL (u32 n) 1 4 8)) (bitsL (u32 n) 5 6 25)) (bitsL (u32 n) 12 1 31)) = c + (n / 2048 % 2 + n / 2 % 16 * 2) * 128 + f3 * 4096 + r1 * 32768 + r2 * 1048576 + (n / 32 % 64 + n / 4096 % 2 * 64) * 33554432 := by
  have e1 : orU (bitsL (u32 n) 11 1 7) (bitsL (u32 n) 1 4 8) = (n / 2048 % 2 + n / 2 % 16 * 2) * 128 := by
    rw [b_11_1_7, b_1_4_8, u32, u32m, orU_add 8 _ _ (by omega) (by omega) (by omega) (by omega) (by omega) (by omega)]; omega
  have e2 : orU (bitsL (u32 n) 5 6 25) (bitsL (u32 n) 12 1 31) = (n / 32 % 64 + n / 4096 % 2 * 64) * 33554432 := by
    rw [b_5_6_25, b_12_1_31, u32, u32m, orU_add 31 _ _ (by omega) (by omega) (by omega) (by omega) (by omega) (by omega)]; omega
  rw [base_or c f3 0 r1 r2 (by decide) h1 h2 h3, orU_assoc _ (bitsL (u32 n) 5 6 25), e1, e2, Int.zero_mul, orU_zero c (by omega), ← sum6 c _ f3 r1 r2 _ hc (by omega) h1 h2 h3 (by omega)]
  ac_rfl
theorem sum_U (c rd n : Int) (hc : 0 ≤ c ∧ c < 128) (h0 : 0 ≤ rd ∧ rd < 32) :
    orU (baseL c 0 rd 0 0) (bitsL (u32 n) 0 20 12) = c + rd * 128 + n % 1048576 * 4096 := by
  rw [base_sum c 0 rd 0 0 hc h0 (by decide) (by decide) (by decide), b_0_20_12, u32, u32m, orU_add 12 _ _ (by omega) (by omega) (by omega) (by omega) (by omega) (by omega)]
  omega
theorem sum_J (c rd n : Int) (hc : 0 ≤ c ∧ c < 128) (h0 : 0 ≤ rd ∧ rd < 32) :
    orU (baseL c 0 rd 0 0) (orU (orU (orU (bitsL (u32 n) 12 8 12) (bitsL (u32 n) 11 1 20)) (bitsL (u32 n) 1 10 21)) (bitsL (u32 n) 20 1 31)) = c + rd * 128 + n / 4096 % 256 * 4096 + n / 2048 % 2 * 1048576 + n / 2 % 1024 * 2097152 + n / 1048576 % 2 * 2147483648 := by
  have e1 : bitsL (u32 n) 12 8 12 = n / 4096 % 256 * 4096 := by rw [b_12_8_12, u32, u32m]; omega
  have e2 : bitsL (u32 n) 11 1 20 = n / 2048 % 2 * 1048576 := by rw [b_11_1_20, u32, u32m]; omega
  have e3 : bitsL (u32 n) 1 10 21 = n / 2 % 1024 * 2097152 := by rw [b_1_10_21, u32, u32m]; omega
  have e4 : bitsL (u32 n) 20 1 31 = n / 1048576 % 2 * 2147483648 := by rw [b_20_1_31, u32, u32m]; omega
  rw [base_sum c 0 rd 0 0 hc h0 (by decide) (by decide) (by decide), e1, e2, e3, e4,
    orU_add 20 _ (n / 2048 % 2 * 1048576) (by omega) (by omega) (by omega) (by omega) (by omega) (by omega),
    orU_add 21 _ (n / 2 % 1024 * 2097152) (by omega) (by omega) (by omega) (by omega) (by omega) (by omega),
    orU_add 31 _ (n / 1048576 % 2 * 2147483648) (by omega) (by omega) (by omega) (by omega) (by omega) (by omega),
    orU_add 12 _ _ (by omega) (by omega) (by omega) (by omega) (by omega) (by omega)]
  omega
end Go.Vm.Rv
/- The words agree; what fits is what is guessed. -/
namespace Go.Vm.Rv
set_option maxRecDepth 10000
theorem q_0_12_20 (n : Int) : shU (rbitsL n 0 12) 20 = bitsL (u32 n) 0 12 20 := by rw [b_0_12_20, rb_0_12, sh_20, u32, u32m]; omega
theorem q_0_5_7 (n : Int) : shU (rbitsL n 0 5) 7 = bitsL (u32 n) 0 5 7 := by rw [b_0_5_7, rb_0_5, sh_7, u32, u32m]; omega
theorem q_5_7_25 (n : Int) : shU (rbitsL n 5 7) 25 = bitsL (u32 n) 5 7 25 := by rw [b_5_7_25, rb_5_7, sh_25, u32, u32m]; omega
theorem q_11_1_7 (n : Int) : shU (rbitsL n 11 1) 7 = bitsL (u32 n) 11 1 7 := by rw [b_11_1_7, rb_11_1, sh_7, u32, u32m]; omega
theorem q_1_4_8 (n : Int) : shU (rbitsL n 1 4) 8 = bitsL (u32 n) 1 4 8 := by rw [b_1_4_8, rb_1_4, sh_8, u32, u32m]; omega
theorem q_5_6_25 (n : Int) : shU (rbitsL n 5 6) 25 = bitsL (u32 n) 5 6 25 := by rw [b_5_6_25, rb_5_6, sh_25, u32, u32m]; omega
theorem q_12_1_31 (n : Int) : shU (rbitsL n 12 1) 31 = bitsL (u32 n) 12 1 31 := by rw [b_12_1_31, rb_12_1, sh_31, u32, u32m]; omega
theorem q_0_20_12 (n : Int) : shU (rbitsL n 0 20) 12 = bitsL (u32 n) 0 20 12 := by rw [b_0_20_12, rb_0_20, sh_12, u32, u32m]; omega
theorem q_12_8_12 (n : Int) : shU (rbitsL n 12 8) 12 = bitsL (u32 n) 12 8 12 := by rw [b_12_8_12, rb_12_8, sh_12, u32, u32m]; omega
theorem q_11_1_20 (n : Int) : shU (rbitsL n 11 1) 20 = bitsL (u32 n) 11 1 20 := by rw [b_11_1_20, rb_11_1, sh_20, u32, u32m]; omega
theorem q_1_10_21 (n : Int) : shU (rbitsL n 1 10) 21 = bitsL (u32 n) 1 10 21 := by rw [b_1_10_21, rb_1_10, sh_21, u32, u32m]; omega
theorem q_20_1_31 (n : Int) : shU (rbitsL n 20 1) 31 = bitsL (u32 n) 20 1 31 := by rw [b_20_1_31, rb_20_1, sh_31, u32, u32m]; omega
theorem q_h (n : Int) (h : 0 ≤ n ∧ n ≤ 63) : shU (u32 n) 20 = bitsL (u32 n) 0 6 20 := by rw [b_0_6_20, sh_20, u32, u32m]; omega
/-- What is right. -/
theorem right_in (op rd rs1 rs2 n : Int) (h : rightL op rd rs1 rs2 n = true) : 1 ≤ op ∧ op ≤ 65 := by
  by_cases ho : op < 1 ∨ 65 < op
  · simp [rightL, form_out op ho, zRw] at h
  · omega
theorem word_same (op rd rs1 rs2 n : Int) (h : rightL op rd rs1 rs2 n = true) : wordL (rwC op) rd rs1 rs2 n = rwordL (formL op) rd rs1 rs2 n := by
  obtain ⟨h1, h2⟩ := right_in _ _ _ _ _ h
  obtain ⟨hs, hc, h3, h7⟩ := same op h1 h2
  have hr := range op h1 h2
  unfold rightL rimmL at h
  simp only [Bool.and_eq_true] at h
  obtain ⟨_, h⟩ := h
  unfold wordL rwordL
  simp only [← hc, ← h3, ← h7]
  generalize (rwC op).f = f at *
  generalize (formL op).f = g at *
  rcases hs with ⟨rfl, hs1, hs2⟩ | ⟨rfl, rfl, hs⟩
  · have hf : f = 82 ∨ f = 72 ∨ f = 73 ∨ f = 83 ∨ f = 66 ∨ f = 85 ∨ f = 74 ∨ f = 78 := by omega
    rcases hf with rfl | rfl | rfl | rfl | rfl | rfl | rfl | rfl
    · simp
    · simp at h; simp [q_h n h, orU_assoc]
    · simp [q_0_12_20]
    · simp [q_0_5_7, q_5_7_25, orU_assoc]
    · simp [q_11_1_7, q_1_4_8, q_5_6_25, q_12_1_31, orU_assoc]
    · simp [q_0_20_12]
    · simp [q_12_8_12, q_11_1_20, q_1_10_21, q_20_1_31, orU_assoc]
    · simp
  · simp at h; simp [q_h n ⟨h.1, by omega⟩, orU_assoc]
theorem dec_num (w s : Int) (k : Nat) (hs : s = k) (hk : k ≤ 32) : dfL true w s = IntKind.i64.wrap (w / 2 ^ k % 32) := by
  unfold dfL
  rw [if_pos rfl, shr_eq .u32 w s k hs hk]
  rw [show andI .u32 (w / 2 ^ k) 31 = w / 2 ^ k % 32 from and_mask 5 (by decide) _]
theorem d_7 (w : Int) : dfL true w 7 = w / 128 % 32 := by rw [dec_num w 7 7 rfl (by decide)]; exact i64w (by omega)
theorem d_15 (w : Int) : dfL true w 15 = w / 32768 % 32 := by rw [dec_num w 15 15 rfl (by decide)]; exact i64w (by omega)
theorem d_20 (w : Int) : dfL true w 20 = w / 1048576 % 32 := by rw [dec_num w 20 20 rfl (by decide)]; exact i64w (by omega)
theorem d_no (w s : Int) : dfL false w s = 0 := rfl
theorem g_7 (w : Int) : gfL true w 7 = w / 128 % 32 := by unfold gfL; rw [if_pos rfl, p_7_5]; exact i64w (by omega)
theorem g_15 (w : Int) : gfL true w 15 = w / 32768 % 32 := by unfold gfL; rw [if_pos rfl, p_15_5]; exact i64w (by omega)
theorem g_20 (w : Int) : gfL true w 20 = w / 1048576 % 32 := by unfold gfL; rw [if_pos rfl, p_20_5]; exact i64w (by omega)
theorem g_no (w s : Int) : gfL false w s = 0 := rfl
/-- Parts that lie apart. -/
theorem i_S (w : Int) (h : 0 ≤ w ∧ w < 4294967296) : immL 83 w = if w / 33554432 < 64 then w / 128 % 32 + w / 33554432 * 32 else w / 128 % 32 + w / 33554432 * 32 - 4096 := by
  have e : orU (bitsL w 7 5 0) (bitsL w 25 7 5) = w / 128 % 32 + w / 33554432 * 32 := by
    rw [b_7_5_0, b_25_7_5, orU_add 5 _ _ (by omega) (by omega) (by omega) (by omega) (by omega) (by omega)]; omega
  show sgnL (orU (bitsL w 7 5 0) (bitsL w 25 7 5)) 12 = _
  rw [e, sgn_12 _ (by omega)]
  split <;> split <;> omega
theorem gi_S (w : Int) (h : 0 ≤ w ∧ w < 4294967296) : gimmL 83 w = immL 83 w := by
  have e : orU (partL w 7 5) (shU (partL w 25 7) 5) = w / 128 % 32 + w / 33554432 * 32 := by
    rw [p_7_5, p_25_7, sh_5, orU_add 5 _ _ (by omega) (by omega) (by omega) (by omega) (by omega) (by omega)]; omega
  rw [i_S w h]
  show rsgnL (orU (partL w 7 5) (shU (partL w 25 7) 5)) 12 = _
  rw [e, rsgn_12 _ (by omega)]
  split <;> split <;> omega
theorem orB (a b c d : Int) (h1 : 0 ≤ a ∧ a < 16) (h2 : 0 ≤ b ∧ b < 64) (h3 : 0 ≤ c ∧ c < 2) (h4 : 0 ≤ d ∧ d < 2) : orU (orU (orU (a * 2) (b * 32)) (c * 2048)) (d * 4096) = a * 2 + b * 32 + c * 2048 + d * 4096 := by
  rw [orU_add 5 (a * 2) (b * 32) (by omega) (by omega) (by omega) (by omega) (by omega) (by omega)]
  rw [orU_add 11 _ (c * 2048) (by omega) (by omega) (by omega) (by omega) (by omega) (by omega)]
  rw [orU_add 12 _ (d * 4096) (by omega) (by omega) (by omega) (by omega) (by omega) (by omega)]
theorem orJ (a b c d : Int) (h1 : 0 ≤ a ∧ a < 1024) (h2 : 0 ≤ b ∧ b < 2) (h3 : 0 ≤ c ∧ c < 256) (h4 : 0 ≤ d ∧ d < 2) : orU (orU (orU (a * 2) (b * 2048)) (c * 4096)) (d * 1048576) = a * 2 + b * 2048 + c * 4096 + d * 1048576 := by
  rw [orU_add 11 (a * 2) (b * 2048) (by omega) (by omega) (by omega) (by omega) (by omega) (by omega)]
  rw [orU_add 12 _ (c * 4096) (by omega) (by omega) (by omega) (by omega) (by omega) (by omega)]
  rw [orU_add 20 _ (d * 1048576) (by omega) (by omega) (by omega) (by omega) (by omega) (by omega)]
theorem mod32 (x k : Int) (h : 0 ≤ x * k ∧ x * k < 4294967296) : x * k % 4294967296 = x * k := Int.emod_eq_of_lt h.1 h.2
def bV (w : Int) : Int := w / 256 % 16 * 2 + w / 33554432 % 64 * 32 + w / 128 % 2 * 2048 + w / 2147483648 * 4096
theorem i_B (w : Int) (h : 0 ≤ w ∧ w < 4294967296) : immL 66 w = if bV w < 4096 then bV w else bV w - 8192 := by
  have e : orU (orU (orU (bitsL w 7 1 11) (bitsL w 8 4 1)) (bitsL w 25 6 5)) (bitsL w 31 1 12) = bV w := by
    rw [show orU (orU (orU (bitsL w 7 1 11) (bitsL w 8 4 1)) (bitsL w 25 6 5)) (bitsL w 31 1 12) = orU (orU (orU (bitsL w 8 4 1) (bitsL w 25 6 5)) (bitsL w 7 1 11)) (bitsL w 31 1 12) by ac_rfl, b_7_1_11, b_8_4_1, b_25_6_5, b_31_1_12, mod32 _ 2 (by omega), mod32 _ 32 (by omega), mod32 _ 2048 (by omega), mod32 _ 4096 (by omega)]
    rw [orB _ _ _ _ (by omega) (by omega) (by omega) (by omega)]
    unfold bV; omega
  show sgnL _ 13 = _
  rw [e, sgn_13 _ (by unfold bV; omega)]
theorem gi_B (w : Int) (h : 0 ≤ w ∧ w < 4294967296) : gimmL 66 w = immL 66 w := by
  have e : orU (orU (orU (shU (partL w 8 4) 1) (shU (partL w 25 6) 5)) (shU (partL w 7 1) 11)) (shU (partL w 31 1) 12) = bV w := by
    rw [p_8_4, p_25_6, p_7_1, p_31_1, sh_1, sh_5, sh_11, sh_12, mod32 _ 2 (by omega), mod32 _ 32 (by omega), mod32 _ 2048 (by omega), mod32 _ 4096 (by omega)]
    rw [orB _ _ _ _ (by omega) (by omega) (by omega) (by omega)]
    unfold bV; omega
  rw [i_B w h]
  show rsgnL _ 13 = _
  rw [e, rsgn_13 _ (by unfold bV; omega)]
def jV (w : Int) : Int := w / 2097152 % 1024 * 2 + w / 1048576 % 2 * 2048 + w / 4096 % 256 * 4096 + w / 2147483648 * 1048576
theorem i_J (w : Int) (h : 0 ≤ w ∧ w < 4294967296) : immL 74 w = if jV w < 1048576 then jV w else jV w - 2097152 := by
  have e : orU (orU (orU (bitsL w 12 8 12) (bitsL w 20 1 11)) (bitsL w 21 10 1)) (bitsL w 31 1 20) = jV w := by
    rw [show orU (orU (orU (bitsL w 12 8 12) (bitsL w 20 1 11)) (bitsL w 21 10 1)) (bitsL w 31 1 20) = orU (orU (orU (bitsL w 21 10 1) (bitsL w 20 1 11)) (bitsL w 12 8 12)) (bitsL w 31 1 20) by ac_rfl, b_12_8_12, b_20_1_11, b_21_10_1, b_31_1_20, mod32 _ 2 (by omega), mod32 _ 2048 (by omega), mod32 _ 4096 (by omega), mod32 _ 1048576 (by omega)]
    rw [orJ _ _ _ _ (by omega) (by omega) (by omega) (by omega)]
    unfold jV; omega
  show sgnL _ 21 = _
  rw [e, sgn_21 _ (by unfold jV; omega)]
theorem gi_J (w : Int) (h : 0 ≤ w ∧ w < 4294967296) : gimmL 74 w = immL 74 w := by
  have e : orU (orU (orU (shU (partL w 21 10) 1) (shU (partL w 20 1) 11)) (shU (partL w 12 8) 12)) (shU (partL w 31 1) 20) = jV w := by
    rw [p_21_10, p_20_1, p_12_8, p_31_1, sh_1, sh_11, sh_12, sh_20, mod32 _ 2 (by omega), mod32 _ 2048 (by omega), mod32 _ 4096 (by omega), mod32 _ 1048576 (by omega)]
    rw [orJ _ _ _ _ (by omega) (by omega) (by omega) (by omega)]
    unfold jV; omega
  rw [i_J w h]
  show rsgnL _ 21 = _
  rw [e, rsgn_21 _ (by unfold jV; omega)]
theorem i_I (w : Int) (h : 0 ≤ w ∧ w < 4294967296) : immL 73 w = if w / 1048576 < 2048 then w / 1048576 else w / 1048576 - 4096 := by
  show sgnL (shrI .u32 w 20) 12 = _
  rw [sr_20, sgn_12 _ (by omega)]
theorem gi_I (w : Int) (h : 0 ≤ w ∧ w < 4294967296) : gimmL 73 w = immL 73 w := by
  rw [i_I w h]
  show rsgnL (partL w 20 12) 12 = _
  rw [p_20_12, rsgn_12 _ (by omega), show w / 1048576 % 4096 = w / 1048576 by omega]
theorem i_U (w : Int) (h : 0 ≤ w ∧ w < 4294967296) : immL 85 w = if w / 4096 < 524288 then w / 4096 else w / 4096 - 1048576 := by
  show sgnL (shrI .u32 w 12) 20 = _
  rw [sr_12, sgn_20 _ (by omega)]
theorem gi_U (w : Int) (h : 0 ≤ w ∧ w < 4294967296) : gimmL 85 w = immL 85 w := by
  rw [i_U w h]
  show rsgnL (partL w 12 20) 20 = _
  rw [p_12_20, rsgn_20 _ (by omega), show w / 4096 % 1048576 = w / 4096 by omega]
theorem i_H (w : Int) : immL 72 w = w / 1048576 % 64 := by
  show IntKind.i64.wrap (andI .u32 (shrI .u32 w 20) 63) = _
  rw [sr_20, show andI .u32 (w / 1048576) 63 = w / 1048576 % 64 from an_6 _]; exact i64w (by omega)
theorem gi_H (w : Int) : gimmL 72 w = w / 1048576 % 64 := by
  show IntKind.i64.wrap (partL w 20 6) = _
  rw [p_20_6]; exact i64w (by omega)
theorem gi_h (w : Int) : gimmL 104 w = w / 1048576 % 32 := by
  show IntKind.i64.wrap (partL w 20 5) = _
  rw [p_20_5]; exact i64w (by omega)
end Go.Vm.Rv
namespace Go.Vm.Rv
set_option maxRecDepth 10000
theorem dig6 (w c x1 f3 r1 r2 x2 : Int) (hw : 0 ≤ w ∧ w < 4294967296) (hc : 0 ≤ c ∧ c < 128) (h0 : 0 ≤ x1 ∧ x1 < 32) (h1 : 0 ≤ f3 ∧ f3 < 8) (h2 : 0 ≤ r1 ∧ r1 < 32) (h3 : 0 ≤ r2 ∧ r2 < 32) (h4 : 0 ≤ x2 ∧ x2 < 128) :
    c + x1 * 128 + f3 * 4096 + r1 * 32768 + r2 * 1048576 + x2 * 33554432 = w ↔ w % 128 = c ∧ w / 128 % 32 = x1 ∧ w / 4096 % 8 = f3 ∧ w / 32768 % 32 = r1 ∧ w / 1048576 % 32 = r2 ∧ w / 33554432 = x2 := by
  constructor
  · intro h; subst h; omega
  · omega
theorem digB (a b c d n : Int) (h1 : 0 ≤ a ∧ a < 16) (h2 : 0 ≤ b ∧ b < 64) (h3 : 0 ≤ c ∧ c < 2) (h4 : 0 ≤ d ∧ d < 2) (hn : n = if a * 2 + b * 32 + c * 2048 + d * 4096 < 4096 then a * 2 + b * 32 + c * 2048 + d * 4096 else a * 2 + b * 32 + c * 2048 + d * 4096 - 8192) :
    (n / 2048 % 2 = c ∧ n / 2 % 16 = a ∧ n / 32 % 64 = b ∧ n / 4096 % 2 = d) ∧ -4096 ≤ n ∧ n ≤ 4094 ∧ n.tmod 2 = 0 := by
  have he : n % 2 = 0 ∧ (n / 2048 % 2 = c ∧ n / 2 % 16 = a ∧ n / 32 % 64 = b ∧ n / 4096 % 2 = d) ∧ -4096 ≤ n ∧ n ≤ 4094 := by
    split at hn <;> subst hn <;> omega
  exact ⟨he.2.1, he.2.2.1, he.2.2.2, Int.tmod_eq_zero_of_dvd (Int.dvd_of_emod_eq_zero he.1)⟩
theorem digJ (a b c d n : Int) (h1 : 0 ≤ a ∧ a < 1024) (h2 : 0 ≤ b ∧ b < 2) (h3 : 0 ≤ c ∧ c < 256) (h4 : 0 ≤ d ∧ d < 2) (hn : n = if a * 2 + b * 2048 + c * 4096 + d * 1048576 < 1048576 then a * 2 + b * 2048 + c * 4096 + d * 1048576 else a * 2 + b * 2048 + c * 4096 + d * 1048576 - 2097152) :
    (n / 2 % 1024 = a ∧ n / 2048 % 2 = b ∧ n / 4096 % 256 = c ∧ n / 1048576 % 2 = d) ∧ -1048576 ≤ n ∧ n ≤ 1048574 ∧ n.tmod 2 = 0 := by
  have he : n % 2 = 0 ∧ (n / 2 % 1024 = a ∧ n / 2048 % 2 = b ∧ n / 4096 % 256 = c ∧ n / 1048576 % 2 = d) ∧ -1048576 ≤ n ∧ n ≤ 1048574 := by
    split at hn <;> subst hn <;> omega
  exact ⟨he.2.1, he.2.2.1, he.2.2.2, Int.tmod_eq_zero_of_dvd (Int.dvd_of_emod_eq_zero he.1)⟩
/-- The parts of a guess. -/
def gd (op w : Int) : Int := gfL (hasD (formL op).f) w 7
def ga (op w : Int) : Int := gfL (hasA (formL op).f) w 15
def gb (op w : Int) : Int := gfL (hasB (formL op).f) w 20
def gn (op w : Int) : Int := gimmL (formL op).f w
theorem rreg_ok (r : Int) (h : 0 ≤ r ∧ r < 32) : rregL r true = true := by simp [rregL]; omega
theorem rreg_no : rregL 0 false = true := rfl
theorem gf_7 (b : Bool) (w : Int) : rregL (gfL b w 7) b = true := by
  cases b with
  | false => rfl
  | true => exact rreg_ok _ (by rw [g_7]; omega)
theorem gf_15 (b : Bool) (w : Int) : rregL (gfL b w 15) b = true := by
  cases b with
  | false => rfl
  | true => exact rreg_ok _ (by rw [g_15]; omega)
theorem gf_20 (b : Bool) (w : Int) : rregL (gfL b w 20) b = true := by
  cases b with
  | false => rfl
  | true => exact rreg_ok _ (by rw [g_20]; omega)
theorem immS (w : Int) (hw : 0 ≤ w ∧ w < 4294967296) : -2048 ≤ immL 83 w ∧ immL 83 w ≤ 2047 ∧ immL 83 w % 32 = w / 128 % 32 ∧ immL 83 w / 32 % 128 = w / 33554432 := by
  rw [i_S w hw]; split <;> omega
theorem immI (w : Int) (hw : 0 ≤ w ∧ w < 4294967296) : -2048 ≤ immL 73 w ∧ immL 73 w ≤ 2047 ∧ immL 73 w % 4096 = w / 1048576 := by
  rw [i_I w hw]; split <;> omega
theorem immU (w : Int) (hw : 0 ≤ w ∧ w < 4294967296) : -524288 ≤ immL 85 w ∧ immL 85 w ≤ 524287 ∧ immL 85 w % 1048576 = w / 4096 := by
  rw [i_U w hw]; split <;> omega
theorem immB (w : Int) (hw : 0 ≤ w ∧ w < 4294967296) : (immL 66 w / 2048 % 2 = w / 128 % 2 ∧ immL 66 w / 2 % 16 = w / 256 % 16 ∧ immL 66 w / 32 % 64 = w / 33554432 % 64 ∧ immL 66 w / 4096 % 2 = w / 2147483648) ∧ -4096 ≤ immL 66 w ∧ immL 66 w ≤ 4094 ∧ (immL 66 w).tmod 2 = 0 := digB (w / 256 % 16) (w / 33554432 % 64) (w / 128 % 2) (w / 2147483648) (immL 66 w) (by omega) (by omega) (by omega) (by omega) (i_B w hw)
theorem immJ (w : Int) (hw : 0 ≤ w ∧ w < 4294967296) : (immL 74 w / 2 % 1024 = w / 2097152 % 1024 ∧ immL 74 w / 2048 % 2 = w / 1048576 % 2 ∧ immL 74 w / 4096 % 256 = w / 4096 % 256 ∧ immL 74 w / 1048576 % 2 = w / 2147483648) ∧ -1048576 ≤ immL 74 w ∧ immL 74 w ≤ 1048574 ∧ (immL 74 w).tmod 2 = 0 := digJ (w / 2097152 % 1024) (w / 1048576 % 2) (w / 4096 % 256) (w / 2147483648) (immL 74 w) (by omega) (by omega) (by omega) (by omega) (i_J w hw)
/-- A guess is right. -/
theorem guess_right (op w : Int) (h1 : 1 ≤ op) (h2 : op ≤ 65) (hw : 0 ≤ w ∧ w < 4294967296) : rightL op (gd op w) (ga op w) (gb op w) (gn op w) = true := by
  obtain ⟨hs, _⟩ := same op h1 h2
  have hr := range op h1 h2
  unfold rightL gd ga gb
  rw [gf_7, gf_15, gf_20]
  unfold gn
  generalize (formL op).f = g at *
  generalize (rwC op).f = f at *
  simp only [Bool.and_true, Bool.and_eq_true, decide_eq_true_eq]
  have hg : g = 82 ∨ g = 72 ∨ g = 104 ∨ g = 73 ∨ g = 83 ∨ g = 66 ∨ g = 85 ∨ g = 74 ∨ g = 78 := by omega
  refine ⟨by omega, ?_⟩
  rcases hg with rfl | rfl | rfl | rfl | rfl | rfl | rfl | rfl | rfl
  · rfl
  · have : rimmL 72 (gimmL 72 w) = decide (0 ≤ gimmL 72 w ∧ gimmL 72 w ≤ 63) := rfl
    rw [this, gi_H]; simp; omega
  · have : rimmL 104 (gimmL 104 w) = decide (0 ≤ gimmL 104 w ∧ gimmL 104 w ≤ 31) := rfl
    rw [this, gi_h]; simp; omega
  · have : rimmL 73 (gimmL 73 w) = decide (-2048 ≤ gimmL 73 w ∧ gimmL 73 w ≤ 2047) := rfl
    have := immI w hw
    rw [gi_I w hw] at *; simp [*]
  · have : rimmL 83 (gimmL 83 w) = decide (-2048 ≤ gimmL 83 w ∧ gimmL 83 w ≤ 2047) := rfl
    have := immS w hw
    rw [gi_S w hw] at *; simp [*]
  · have : rimmL 66 (gimmL 66 w) = decide (-4096 ≤ gimmL 66 w ∧ gimmL 66 w ≤ 4094 ∧ (gimmL 66 w).tmod 2 = 0) := rfl
    have := immB w hw
    rw [gi_B w hw] at *; simp only [*, decide_true]; simp
  · have : rimmL 85 (gimmL 85 w) = decide (-524288 ≤ gimmL 85 w ∧ gimmL 85 w ≤ 524287) := rfl
    have := immU w hw
    rw [gi_U w hw] at *; simp [*]
  · have : rimmL 74 (gimmL 74 w) = decide (-1048576 ≤ gimmL 74 w ∧ gimmL 74 w ≤ 1048574 ∧ (gimmL 74 w).tmod 2 = 0) := rfl
    have := immJ w hw
    rw [gi_J w hw] at *; simp only [*, decide_true]; simp
  · rfl
end Go.Vm.Rv
namespace Go.Vm.Rv
set_option maxRecDepth 10000
section
variable (r : Rw) (rd r1 r2 n w : Int)
theorem w82 (h : r.f = 82) : wordL r rd r1 r2 n = orU (baseL r.c r.f3 rd r1 r2) (shU r.f7 25) := by simp [wordL, baseL, h]
theorem w73 (h : r.f = 73) : wordL r rd r1 r2 n = orU (baseL r.c r.f3 rd r1 r2) (bitsL (u32 n) 0 12 20) := by simp [wordL, baseL, h]
theorem w72 (h : r.f = 72) : wordL r rd r1 r2 n = orU (baseL r.c r.f3 rd r1 r2) (orU (shU r.f7 25) (bitsL (u32 n) 0 6 20)) := by simp [wordL, baseL, h]
theorem w83 (h : r.f = 83) : wordL r rd r1 r2 n = orU (baseL r.c r.f3 rd r1 r2) (orU (bitsL (u32 n) 0 5 7) (bitsL (u32 n) 5 7 25)) := by simp [wordL, baseL, h]
theorem w66 (h : r.f = 66) : wordL r rd r1 r2 n = orU (baseL r.c r.f3 rd r1 r2) (orU (orU (orU (bitsL (u32 n) 11 1 7) (bitsL (u32 n) 1 4 8)) (bitsL (u32 n) 5 6 25)) (bitsL (u32 n) 12 1 31)) := by simp [wordL, baseL, h]
theorem w85 (h : r.f = 85) : wordL r rd r1 r2 n = orU (baseL r.c r.f3 rd r1 r2) (bitsL (u32 n) 0 20 12) := by simp [wordL, baseL, h]
theorem w74 (h : r.f = 74) : wordL r rd r1 r2 n = orU (baseL r.c r.f3 rd r1 r2) (orU (orU (orU (bitsL (u32 n) 12 8 12) (bitsL (u32 n) 11 1 20)) (bitsL (u32 n) 1 10 21)) (bitsL (u32 n) 20 1 31)) := by simp [wordL, baseL, h]
theorem w78 (h : r.f = 78) (hf : r.f3 = 0) (hc : 0 ≤ r.c ∧ r.c < 4294967296) : wordL r 0 0 0 n = r.c := by
  have : wordL r 0 0 0 n = baseL r.c r.f3 0 0 0 := by simp [wordL, baseL, h]
  rw [this, hf, base_or _ _ _ _ _ (by decide) (by decide) (by decide) (by decide)]
  simp only [Int.zero_mul]
  rw [orU_zero _ hc, orU_zero _ hc, orU_zero _ hc, orU_zero _ hc]
theorem f82 (h : r.f = 82) : fitsL r w = decide (w / 33554432 = r.f7 ∧ w % 128 = r.c ∧ w / 4096 % 8 = r.f3) := by
  simp only [fitsL, h, sr_25, sr_12, an_7, an_3]; rw [Bool.eq_iff_iff]; simp
theorem f72 (h : r.f = 72) (hw : 0 ≤ w ∧ w < 4294967296) : fitsL r w = decide ((if r.c = 27 then w / 33554432 else w / 67108864 * 2) = r.f7 ∧ w % 128 = r.c ∧ w / 4096 % 8 = r.f3) := by
  have e : w / 67108864 * 2 % 4294967296 = w / 67108864 * 2 := by omega
  simp only [fitsL, h, sr_25, sr_26, sl_1, sr_12, an_7, an_3, e]; rw [Bool.eq_iff_iff]; simp
theorem fISB (h : r.f = 73 ∨ r.f = 83 ∨ r.f = 66) : fitsL r w = decide (w % 128 = r.c ∧ w / 4096 % 8 = r.f3) := by
  rcases h with h | h | h <;> (simp only [fitsL, h, sr_12, an_7, an_3]; rw [Bool.eq_iff_iff]; simp)
theorem fUJ (h : r.f = 85 ∨ r.f = 74) : fitsL r w = decide (w % 128 = r.c) := by
  rcases h with h | h <;> (simp only [fitsL, h, sr_12, an_7, an_3]; rw [Bool.eq_iff_iff]; simp)
theorem f78 (h : r.f = 78) : fitsL r w = decide (w = r.c) := by simp [fitsL, h]
end
theorem shift_all (op : Int) (h1 : 1 ≤ op) (h2 : op ≤ 65) : ((rwC op).f = 72 → ((rwC op).c = 27 ↔ 32 ≤ op)) := all_ops (p := fun op => (rwC op).f = 72 → ((rwC op).c = 27 ↔ 32 ≤ op)) (by decide +kernel) op h1 h2
theorem cR (w c f3 f7 : Int) (hw : 0 ≤ w ∧ w < 4294967296) (hc : 0 ≤ c ∧ c < 128) (h1 : 0 ≤ f3 ∧ f3 < 8) (h4 : 0 ≤ f7 ∧ f7 < 128) : (w / 33554432 = f7 ∧ w % 128 = c ∧ w / 4096 % 8 = f3) ↔ c + w / 128 % 32 * 128 + f3 * 4096 + w / 32768 % 32 * 32768 + w / 1048576 % 32 * 1048576 + f7 * 33554432 = w := by
  rw [dig6 w c (w / 128 % 32) f3 (w / 32768 % 32) (w / 1048576 % 32) f7 hw hc (by omega) h1 (by omega) (by omega) h4]
  constructor
  · intro h; exact ⟨h.2.1, rfl, h.2.2, rfl, rfl, h.1⟩
  · intro h; exact ⟨h.2.2.2.2.2, h.1, h.2.2.1⟩
theorem cAll (w c f3 : Int) (hw : 0 ≤ w ∧ w < 4294967296) (hc : 0 ≤ c ∧ c < 128) (h1 : 0 ≤ f3 ∧ f3 < 8) : (w % 128 = c ∧ w / 4096 % 8 = f3) ↔ c + w / 128 % 32 * 128 + f3 * 4096 + w / 32768 % 32 * 32768 + w / 1048576 % 32 * 1048576 + w / 33554432 * 33554432 = w := by
  rw [dig6 w c (w / 128 % 32) f3 (w / 32768 % 32) (w / 1048576 % 32) (w / 33554432) hw hc (by omega) h1 (by omega) (by omega) (by omega)]
  constructor
  · intro h; exact ⟨h.1, rfl, h.2, rfl, rfl, rfl⟩
  · intro h; exact ⟨h.1, h.2.2.1⟩
theorem eI (w : Int) (hw : 0 ≤ w ∧ w < 4294967296) : w / 1048576 * 1048576 = w / 1048576 % 32 * 1048576 + w / 33554432 * 33554432 := by omega
theorem eB1 (w : Int) : w / 128 % 2 + w / 256 % 16 * 2 = w / 128 % 32 := by omega
theorem eB2 (w : Int) (hw : 0 ≤ w ∧ w < 4294967296) : w / 33554432 % 64 + w / 2147483648 * 64 = w / 33554432 := by omega
theorem eJ (w : Int) : w / 4096 % 256 * 4096 + w / 1048576 % 2 * 1048576 + w / 2097152 % 1024 * 2097152 + w / 2147483648 * 2147483648 = w / 4096 * 4096 := by
  have h1 : w / 1048576 = w / 4096 / 256 := by omega
  have h2 : w / 2097152 = w / 4096 / 256 / 2 := by omega
  have h3 : w / 2147483648 = w / 4096 / 256 / 2 / 1024 := by omega
  rw [h1, h2, h3]
  generalize w / 4096 = u
  have a1 : u = u % 256 + u / 256 * 256 := by omega
  generalize u / 256 = v at *
  have a2 : v = v % 2 + v / 2 * 2 := by omega
  generalize v / 2 = x at *
  have a3 : x = x % 1024 + x / 1024 * 1024 := by omega
  omega
theorem cU (w c : Int) (hw : 0 ≤ w ∧ w < 4294967296) (hc : 0 ≤ c ∧ c < 128) : w % 128 = c ↔ c + w / 128 % 32 * 128 + w / 4096 * 4096 = w := by omega
theorem eH (w : Int) : w / 67108864 = w / 1048576 / 64 := by omega
theorem eH2 (w : Int) : w / 33554432 = w / 1048576 / 32 := by omega
theorem eW (w : Int) : w = w % 128 + w / 128 % 32 * 128 + w / 4096 % 8 * 4096 + w / 32768 % 32 * 32768 + w / 1048576 * 1048576 := by
  have h1 : w / 4096 = w / 128 / 32 := by omega
  have h2 : w / 32768 = w / 128 / 32 / 8 := by omega
  have h3 : w / 1048576 = w / 128 / 32 / 8 / 32 := by omega
  rw [h1, h2, h3]
  have a0 : w = w % 128 + w / 128 * 128 := by omega
  generalize w / 128 = u at *
  have a1 : u = u % 32 + u / 32 * 32 := by omega
  generalize u / 32 = v at *
  have a2 : v = v % 8 + v / 8 * 8 := by omega
  generalize v / 8 = x at *
  omega
theorem cH1 (w c f3 f7 : Int) (hw : 0 ≤ w ∧ w < 4294967296) (hc : 0 ≤ c ∧ c < 128) (h1 : 0 ≤ f3 ∧ f3 < 8) (h4 : f7 = 0 ∨ f7 = 32) : (w / 67108864 * 2 = f7 ∧ w % 128 = c ∧ w / 4096 % 8 = f3) ↔ c + w / 128 % 32 * 128 + f3 * 4096 + w / 32768 % 32 * 32768 + w / 1048576 % 64 % 64 * 1048576 + f7 * 33554432 = w := by
  have hl : ∀ X, X = w → X % 128 = w % 128 ∧ X / 4096 % 8 = w / 4096 % 8 ∧ X / 67108864 = w / 67108864 := fun X h => by subst h; exact ⟨rfl, rfl, rfl⟩
  have e := eW w
  have e2 := eH w
  have b1 : 0 ≤ w / 128 % 32 ∧ w / 128 % 32 < 32 := by omega
  have b2 : 0 ≤ w / 32768 % 32 ∧ w / 32768 % 32 < 32 := by omega
  generalize w / 128 % 32 = x1 at *
  generalize w / 32768 % 32 = x2 at *
  have e3 : w / 1048576 = w / 1048576 % 64 + w / 1048576 / 64 * 64 := by omega
  rw [← e2] at e3
  have b3 : 0 ≤ w / 1048576 % 64 ∧ w / 1048576 % 64 < 64 := by omega
  rw [show w / 1048576 % 64 % 64 = w / 1048576 % 64 by omega]
  generalize w / 1048576 % 64 = x3 at *
  generalize hx : w / 67108864 = x4 at *
  constructor
  · rintro ⟨h1, h2, h3⟩
    rw [h2, h3] at e
    omega
  · intro h
    have hh := hl _ h
    rw [← hh.1, ← hh.2.1, ← hh.2.2]
    omega
theorem cH2 (w c f3 f7 : Int) (hw : 0 ≤ w ∧ w < 4294967296) (hc : 0 ≤ c ∧ c < 128) (h1 : 0 ≤ f3 ∧ f3 < 8) (h4 : f7 = 0 ∨ f7 = 32) : (w / 33554432 = f7 ∧ w % 128 = c ∧ w / 4096 % 8 = f3) ↔ c + w / 128 % 32 * 128 + f3 * 4096 + w / 32768 % 32 * 32768 + w / 1048576 % 32 % 64 * 1048576 + f7 * 33554432 = w := by
  rw [show w / 1048576 % 32 % 64 = w / 1048576 % 32 by omega]
  exact cR w c f3 f7 hw hc h1 (by omega)
/-- What fits is the guess' word. -/
theorem fits_word (op w : Int) (h1 : 1 ≤ op) (h2 : op ≤ 65) (hw : 0 ≤ w ∧ w < 4294967296) : fitsL (rwC op) w = decide (wordL (rwC op) (gd op w) (ga op w) (gb op w) (gn op w) = w) := by
  obtain ⟨hs, _⟩ := same op h1 h2
  have hr := range op h1 h2
  have ht := shift_all op h1 h2
  unfold gd ga gb gn
  obtain ⟨⟨hr1, hr2⟩, hr⟩ := hr
  rcases hr with (((hr | hr) | hr) | hr) | hr
  · obtain ⟨hf, hr⟩ := hr
    have hg : (formL op).f = 82 := by omega
    rw [f82 _ _ hf, w82 _ _ _ _ _ hf, hg, show hasD 82 = true from rfl, show hasA 82 = true from rfl, show hasB 82 = true from rfl, g_7, g_15, g_20, sum_R _ _ _ _ _ _ ⟨hr.1, hr.2.1⟩ (by omega) ⟨hr1, hr2⟩ (by omega) (by omega) hr.2.2]
    rw [decide_eq_decide]; exact cR w _ _ _ hw ⟨hr.1, hr.2.1⟩ ⟨hr1, hr2⟩ hr.2.2
  · obtain ⟨hf, hr⟩ := hr
    have ht := ht hf
    rw [f72 _ _ hf hw, w72 _ _ _ _ _ hf]
    by_cases ho : 32 ≤ op
    · have hg : (formL op).f = 104 := by omega
      rw [hg, show hasD 104 = true from rfl, show hasA 104 = true from rfl, show hasB 104 = false from rfl, g_7, g_15, g_no, gi_h, sum_H _ _ _ _ _ _ ⟨hr.1, hr.2.1⟩ (by omega) ⟨hr1, hr2⟩ (by omega) hr.2.2, if_pos (ht.2 ho)]
      rw [decide_eq_decide]; exact cH2 w _ _ _ hw ⟨hr.1, hr.2.1⟩ ⟨hr1, hr2⟩ hr.2.2
    · have hg : (formL op).f = 72 := by omega
      rw [hg, show hasD 72 = true from rfl, show hasA 72 = true from rfl, show hasB 72 = false from rfl, g_7, g_15, g_no, gi_H, sum_H _ _ _ _ _ _ ⟨hr.1, hr.2.1⟩ (by omega) ⟨hr1, hr2⟩ (by omega) hr.2.2, if_neg (fun h => ho (ht.1 h))]
      rw [decide_eq_decide]; exact cH1 w _ _ _ hw ⟨hr.1, hr.2.1⟩ ⟨hr1, hr2⟩ hr.2.2
  · obtain ⟨hf, hr⟩ := hr
    rw [fISB _ _ (by omega)]
    rcases hf with (hf | hf) | hf
    · have hg : (formL op).f = 73 := by omega
      have hi := immI w hw
      rw [w73 _ _ _ _ _ hf, hg, show hasD 73 = true from rfl, show hasA 73 = true from rfl, show hasB 73 = false from rfl, g_7, g_15, g_no, gi_I w hw, sum_I _ _ _ _ _ hr (by omega) ⟨hr1, hr2⟩ (by omega), hi.2.2, eI w hw, ← Int.add_assoc]
      rw [decide_eq_decide]; exact cAll w _ _ hw hr ⟨hr1, hr2⟩
    · have hg : (formL op).f = 83 := by omega
      have hi := immS w hw
      rw [w83 _ _ _ _ _ hf, hg, show hasD 83 = false from rfl, show hasA 83 = true from rfl, show hasB 83 = true from rfl, g_no, g_15, g_20, gi_S w hw, sum_S _ _ _ _ _ hr ⟨hr1, hr2⟩ (by omega) (by omega), hi.2.2.1, hi.2.2.2]
      rw [decide_eq_decide]; exact cAll w _ _ hw hr ⟨hr1, hr2⟩
    · have hg : (formL op).f = 66 := by omega
      obtain ⟨⟨a, b, c, d⟩, _⟩ := immB w hw
      rw [w66 _ _ _ _ _ hf, hg, show hasD 66 = false from rfl, show hasA 66 = true from rfl, show hasB 66 = true from rfl, g_no, g_15, g_20, gi_B w hw, sum_B _ _ _ _ _ hr ⟨hr1, hr2⟩ (by omega) (by omega), a, b, c, d, eB1, eB2 w hw]
      rw [decide_eq_decide]; exact cAll w _ _ hw hr ⟨hr1, hr2⟩
  · obtain ⟨hf, hr⟩ := hr
    rw [fUJ _ _ hf]
    rcases hf with hf | hf
    · have hg : (formL op).f = 85 := by omega
      have hi := immU w hw
      rw [w85 _ _ _ _ _ hf, hg, show hasD 85 = true from rfl, show hasA 85 = false from rfl, show hasB 85 = false from rfl, g_7, g_no, g_no, gi_U w hw, hr.2.2, sum_U _ _ _ ⟨hr.1, hr.2.1⟩ (by omega), hi.2.2]
      rw [decide_eq_decide]; exact cU w _ hw ⟨hr.1, hr.2.1⟩
    · have hg : (formL op).f = 74 := by omega
      obtain ⟨⟨a, b, c, d⟩, _⟩ := immJ w hw
      rw [w74 _ _ _ _ _ hf, hg, show hasD 74 = true from rfl, show hasA 74 = false from rfl, show hasB 74 = false from rfl, g_7, g_no, g_no, gi_J w hw, hr.2.2, sum_J _ _ _ ⟨hr.1, hr.2.1⟩ (by omega), a, b, c, d]
      have := eJ w
      have := cU w (rwC op).c hw ⟨hr.1, hr.2.1⟩
      rw [decide_eq_decide]; omega
  · obtain ⟨hf, hr⟩ := hr
    have hg : (formL op).f = 78 := by omega
    rw [f78 _ _ hf, hg, show hasD 78 = false from rfl, show hasA 78 = false from rfl, show hasB 78 = false from rfl, g_no, g_no, g_no, w78 _ _ hf hr.2.2 ⟨hr.1, hr.2.1⟩]
    rw [decide_eq_decide]; omega
end Go.Vm.Rv
namespace Go.Vm.Rv
set_option maxRecDepth 10000
theorem dg7 (b : Bool) (w : Int) : dfL b w 7 = gfL b w 7 := by cases b with | false => rfl | true => rw [d_7, g_7]
theorem dg15 (b : Bool) (w : Int) : dfL b w 15 = gfL b w 15 := by cases b with | false => rfl | true => rw [d_15, g_15]
theorem dg20 (b : Bool) (w : Int) : dfL b w 20 = gfL b w 20 := by cases b with | false => rfl | true => rw [d_20, g_20]
/-- The instruction that is read is the one that is guessed. -/
theorem opD_guess (op w : Int) (h1 : 1 ≤ op) (h2 : op ≤ 65) (hw : 0 ≤ w ∧ w < 4294967296) (hf : fitsL (rwC op) w = true) : opD (rwC op) op w = guessD op w := by
  obtain ⟨hs, _⟩ := same op h1 h2
  have hr := range op h1 h2
  have ht := shift_all op h1 h2
  unfold opD guessD
  rw [dg7, dg15, dg20]
  rcases hs with ⟨hs, hs1, hs2⟩ | ⟨hs, hs1, hs2⟩
  · rw [← hs]
    generalize (rwC op).f = f at *
    have hf : f = 82 ∨ f = 72 ∨ f = 73 ∨ f = 83 ∨ f = 66 ∨ f = 85 ∨ f = 74 ∨ f = 78 := by omega
    rcases hf with rfl | rfl | rfl | rfl | rfl | rfl | rfl | rfl
    · rfl
    · rw [i_H, gi_H]; rfl
    · rw [gi_I w hw]; rfl
    · rw [gi_S w hw]; rfl
    · rw [gi_B w hw]; rfl
    · rw [gi_U w hw]; rfl
    · rw [gi_J w hw]; rfl
    · rfl
  · rw [f72 _ _ hs hw, decide_eq_true_eq, if_pos ((ht hs).2 hs2)] at hf
    rw [hs, hs1, i_H, gi_h]
    have : w / 1048576 % 64 = w / 1048576 % 32 := by
      have := eH2 w
      have : (rwC op).f7 = 0 ∨ (rwC op).f7 = 32 := by omega
      omega
    rw [this]; rfl
/-- Both read the same. -/
theorem dec_same (w : Int) (hw : 0 ≤ w ∧ w < 4294967296) : decR (fun op => fitsL (rwC op) w) (fun op => opD (rwC op) op w) 65 = decR (fun op => rightL op (gd op w) (ga op w) (gb op w) (gn op w) && decide (rwordL (formL op) (gd op w) (ga op w) (gb op w) (gn op w) = w)) (fun op => guessD op w) 65 := by
  refine decR_ext (fun op h1 h2 => ?_) (fun op h1 h2 h => opD_guess op w h1 h2 hw h) 65 (Nat.le_refl _)
  have hr := guess_right op w h1 h2 hw
  rw [fits_word op w h1 h2 hw, hr, word_same _ _ _ _ _ hr]; rfl
/-- What tells rows apart. -/
def k3 (r : Rw) : Option Int := if r.f = 85 ∨ r.f = 74 then none else if r.f = 78 then some (r.c / 4096 % 8) else some r.f3
def k6 (r : Rw) : Option Int := if r.f = 82 ∨ r.f = 72 then some (r.f7 / 2) else none
def k7 (r : Rw) : Option Int := if r.f = 82 then some r.f7 else none
def kw (r : Rw) : Option Int := if r.f = 78 then some r.c else none
def ne2 (a b : Option Int) : Bool := match a, b with | some x, some y => decide (x ≠ y) | _, _ => false
def apartB (r s : Rw) : Bool := decide (r.c % 128 ≠ s.c % 128) || ne2 (k3 r) (k3 s) || ne2 (k6 r) (k6 s) || ne2 (k7 r) (k7 s) || ne2 (kw r) (kw s)
theorem apart_fin : ∀ a b : Fin 65, a = b ∨ apartB (rwC ((a.1 : Int) + 1)) (rwC ((b.1 : Int) + 1)) = true := by decide +kernel
theorem apart_all (a b : Int) (h1 : 1 ≤ a) (h2 : a ≤ 65) (h3 : 1 ≤ b) (h4 : b ≤ 65) (h : a ≠ b) : apartB (rwC a) (rwC b) = true := by
  have := apart_fin ⟨(a - 1).toNat, by omega⟩ ⟨(b - 1).toNat, by omega⟩
  rw [show ((((a - 1).toNat : Nat) : Int)) + 1 = a by omega, show ((((b - 1).toNat : Nat) : Int)) + 1 = b by omega] at this
  rcases this with h' | h'
  · exact absurd (by have := congrArg Fin.val h'; simp only at this; omega) h
  · exact h'
theorem keys (op w : Int) (h1 : 1 ≤ op) (h2 : op ≤ 65) (hw : 0 ≤ w ∧ w < 4294967296) (hf : fitsL (rwC op) w = true) :
    w % 128 = (rwC op).c % 128 ∧ (∀ k, k3 (rwC op) = some k → w / 4096 % 8 = k) ∧ (∀ k, k6 (rwC op) = some k → w / 67108864 = k) ∧ (∀ k, k7 (rwC op) = some k → w / 33554432 = k) ∧ (∀ k, kw (rwC op) = some k → w = k) := by
  have hr := range op h1 h2
  obtain ⟨⟨hr1, hr2⟩, hr⟩ := hr
  rcases hr with (((hr | hr) | hr) | hr) | hr
  · obtain ⟨hc, hr⟩ := hr
    rw [f82 _ _ hc, decide_eq_true_eq] at hf
    simp [k3, k6, k7, kw, hc]; omega
  · obtain ⟨hc, hr⟩ := hr
    rw [f72 _ _ hc hw, decide_eq_true_eq] at hf
    simp [k3, k6, k7, kw, hc]
    by_cases h27 : (rwC op).c = 27
    · rw [if_pos h27] at hf; omega
    · rw [if_neg h27] at hf; omega
  · obtain ⟨hc, hr⟩ := hr
    rw [fISB _ _ (by omega), decide_eq_true_eq] at hf
    rcases hc with (hc | hc) | hc <;> (simp [k3, k6, k7, kw, hc]; omega)
  · obtain ⟨hc, hr⟩ := hr
    rw [fUJ _ _ hc, decide_eq_true_eq] at hf
    rcases hc with hc | hc <;> (simp [k3, k6, k7, kw, hc]; omega)
  · obtain ⟨hc, hr⟩ := hr
    rw [f78 _ _ hc, decide_eq_true_eq] at hf
    simp [k3, k6, k7, kw, hc]; omega
theorem ne2_no {a b : Option Int} {x : Int} (h1 : ∀ k, a = some k → x = k) (h2 : ∀ k, b = some k → x = k) : ne2 a b = false := by
  cases a with
  | none => rfl
  | some y =>
    cases b with
    | none => rfl
    | some z => simp [ne2, ← h1 y rfl, ← h2 z rfl]
theorem uniq (a b w : Int) (h1 : 1 ≤ a) (h2 : a ≤ 65) (h3 : 1 ≤ b) (h4 : b ≤ 65) (hw : 0 ≤ w ∧ w < 4294967296) (ha : fitsL (rwC a) w = true) (hb : fitsL (rwC b) w = true) : a = b := by
  by_cases h : a = b
  · exact h
  · have hn := apart_all a b h1 h2 h3 h4 h
    obtain ⟨a1, a2, a3, a4, a5⟩ := keys a w h1 h2 hw ha
    obtain ⟨b1, b2, b3, b4, b5⟩ := keys b w h3 h4 hw hb
    unfold apartB at hn
    rw [ne2_no a2 b2, ne2_no a3 b3, ne2_no a4 b4, ne2_no a5 b5] at hn
    simp at hn
    omega
theorem decR_at {p : Int → Bool} {f : Int → D} {op : Int} (hp : p op = true) (hu : ∀ o, 1 ≤ o → o < op → p o = false) : ∀ k : Nat, k ≤ 65 → op ≤ 65 → 66 - (k : Int) ≤ op → decR p f k = .tup [.d (f op), .d (.int .i64 0)]
  | 0, _, _, h => by omega
  | k + 1, hk, ho, h => by
    unfold decR
    by_cases he : 65 - (k : Int) = op
    · rw [he, hp]; rfl
    · rw [hu _ (by omega) (by omega)]
      exact decR_at hp hu k (by omega) ho (by omega)
theorem decR_cases (p : Int → Bool) (f : Int → D) : ∀ k : Nat, k ≤ 65 → (decR p f k = .tup [.d zeroD, .d (.int .i64 10)]) ∨ ∃ op, 1 ≤ op ∧ op ≤ 65 ∧ p op = true ∧ decR p f k = .tup [.d (f op), .d (.int .i64 0)]
  | 0, _ => .inl rfl
  | k + 1, hk => by
    unfold decR
    cases hp : p (65 - k) with
    | true => exact .inr ⟨65 - k, by omega, by omega, hp, rfl⟩
    | false => exact decR_cases p f k (by omega)
end Go.Vm.Rv
