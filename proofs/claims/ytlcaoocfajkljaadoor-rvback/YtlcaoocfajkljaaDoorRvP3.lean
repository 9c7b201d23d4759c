import Derived.Test.YtlcaoocfajkljaaDoorRvP2
/- The words agree; what fits is what is guessed. -/
namespace Go.Vm.Rv
set_option maxRecDepth 10000
theorem q_0_12_20 (n : Int) : shU (rbitsL n 0 12) 20 = bitsL (u32 n) 0 12 20 := by rw [b_0_12_20, rb_0_12, sh_20, u32, u32m]; omega
theorem q_0_5_7 (n : Int) : shU (rbitsL n 0 5) 7 = bitsL (u32 n) 0 5 7 := by rw [b_0_5_7, rb_0_5, sh_7, u32, u32m]; omega
theorem q_5_7_25 (n : Int) : shU (rbitsL n 5 7) 25 = bitsL (u32 n) 5 7 25 := by rw [b_5_7_25, rb_5_7, sh_25, u32, u32m]; omega
theorem q_11_1_7 (n : Int) : shU (rbitsL n 11 1) 7 = bitsL (u32 n) 11 1 7 := by rw [b_11_1_7, rb_11_1, sh_7, u32, u32m]; omega
theorem q_1_4_8 (n : Int) : shU (rbitsL n 1 4) 8 = bitsL (u32 n) 1 4 8 := by rw [b_1_4_8, rb_1_4, sh_8, u32, u32m]; omega
theorem q_5_6_25 (n : Int) : shU (rbitsL n 5 6) 25 = bitsL (u32 n) 5 6 25 := by rw [b_5_6_25, rb_5_6, sh_25, u32, u32m]; omega
theorem q_12_1_31 (n : Int) : shU (rbitsL n 12 1) 31 = bitsL (u32 n) 12 1 31 := by rw [b_12_1_31, rb_12_1, sh_31, u32, u32m]; omega
theorem q_0_20_12 (n : Int) : shU (rbitsL n 0 20) 12 = bitsL (u32 n) 0 20 12 := by rw [b_0_20_12, rb_0_20, sh_12, u32, u32m]; omega
theorem q_12_8_12 (n : Int) : shU (rbitsL n 12 8) 12 = bitsL (u32 n) 12 8 12 := by rw [b_12_8_12, rb_12_8, sh_12, u32, u32m]; omega
theorem q_11_1_20 (n : Int) : shU (rbitsL n 11 1) 20 = bitsL (u32 n) 11 1 20 := by rw [b_11_1_20, rb_11_1, sh_20, u32, u32m]; omega
theorem q_1_10_21 (n : Int) : shU (rbitsL n 1 10) 21 = bitsL (u32 n) 1 10 21 := by rw [b_1_10_21, rb_1_10, sh_21, u32, u32m]; omega
theorem q_20_1_31 (n : Int) : shU (rbitsL n 20 1) 31 = bitsL (u32 n) 20 1 31 := by rw [b_20_1_31, rb_20_1, sh_31, u32, u32m]; omega
theorem q_h (n : Int) (h : 0 ≤ n ∧ n ≤ 63) : shU (u32 n) 20 = bitsL (u32 n) 0 6 20 := by rw [b_0_6_20, sh_20, u32, u32m]; omega
/-- What is right. -/
theorem right_in (op rd rs1 rs2 n : Int) (h : rightL op rd rs1 rs2 n = true) : 1 ≤ op ∧ op ≤ 65 := by
  by_cases ho : op < 1 ∨ 65 < op
  · simp [rightL, form_out op ho, zRw] at h
  · omega
theorem word_same (op rd rs1 rs2 n : Int) (h : rightL op rd rs1 rs2 n = true) : wordL (rwC op) rd rs1 rs2 n = rwordL (formL op) rd rs1 rs2 n := by
  obtain ⟨h1, h2⟩ := right_in _ _ _ _ _ h
  obtain ⟨hs, hc, h3, h7⟩ := same op h1 h2
  have hr := range op h1 h2
  unfold rightL rimmL at h
  simp only [Bool.and_eq_true] at h
  obtain ⟨_, h⟩ := h
  unfold wordL rwordL
  simp only [← hc, ← h3, ← h7]
  generalize (rwC op).f = f at *
  generalize (formL op).f = g at *
  rcases hs with ⟨rfl, hs1, hs2⟩ | ⟨rfl, rfl, hs⟩
  · have hf : f = 82 ∨ f = 72 ∨ f = 73 ∨ f = 83 ∨ f = 66 ∨ f = 85 ∨ f = 74 ∨ f = 78 := by omega
    rcases hf with rfl | rfl | rfl | rfl | rfl | rfl | rfl | rfl
    · simp
    · simp at h; simp [q_h n h, orU_assoc]
    · simp [q_0_12_20]
    · simp [q_0_5_7, q_5_7_25, orU_assoc]
    · simp [q_11_1_7, q_1_4_8, q_5_6_25, q_12_1_31, orU_assoc]
    · simp [q_0_20_12]
    · simp [q_12_8_12, q_11_1_20, q_1_10_21, q_20_1_31, orU_assoc]
    · simp
  · simp at h; simp [q_h n ⟨h.1, by omega⟩, orU_assoc]
theorem dec_num (w s : Int) (k : Nat) (hs : s = k) (hk : k ≤ 32) : dfL true w s = IntKind.i64.wrap (w / 2 ^ k % 32) := by
  unfold dfL
  rw [if_pos rfl, shr_eq .u32 w s k hs hk]
  rw [show andI .u32 (w / 2 ^ k) 31 = w / 2 ^ k % 32 from and_mask 5 (by decide) _]
theorem d_7 (w : Int) : dfL true w 7 = w / 128 % 32 := by rw [dec_num w 7 7 rfl (by decide)]; exact i64w (by omega)
theorem d_15 (w : Int) : dfL true w 15 = w / 32768 % 32 := by rw [dec_num w 15 15 rfl (by decide)]; exact i64w (by omega)
theorem d_20 (w : Int) : dfL true w 20 = w / 1048576 % 32 := by rw [dec_num w 20 20 rfl (by decide)]; exact i64w (by omega)
theorem d_no (w s : Int) : dfL false w s = 0 := rfl
theorem g_7 (w : Int) : gfL true w 7 = w / 128 % 32 := by unfold gfL; rw [if_pos rfl, p_7_5]; exact i64w (by omega)
theorem g_15 (w : Int) : gfL true w 15 = w / 32768 % 32 := by unfold gfL; rw [if_pos rfl, p_15_5]; exact i64w (by omega)
theorem g_20 (w : Int) : gfL true w 20 = w / 1048576 % 32 := by unfold gfL; rw [if_pos rfl, p_20_5]; exact i64w (by omega)
theorem g_no (w s : Int) : gfL false w s = 0 := rfl
/-- Parts that lie apart. -/
theorem i_S (w : Int) (h : 0 ≤ w ∧ w < 4294967296) : immL 83 w = if w / 33554432 < 64 then w / 128 % 32 + w / 33554432 * 32 else w / 128 % 32 + w / 33554432 * 32 - 4096 := by
  have e : orU (bitsL w 7 5 0) (bitsL w 25 7 5) = w / 128 % 32 + w / 33554432 * 32 := by
    rw [b_7_5_0, b_25_7_5, orU_add 5 _ _ (by omega) (by omega) (by omega) (by omega) (by omega) (by omega)]; omega
  show sgnL (orU (bitsL w 7 5 0) (bitsL w 25 7 5)) 12 = _
  rw [e, sgn_12 _ (by omega)]
  split <;> split <;> omega
theorem gi_S (w : Int) (h : 0 ≤ w ∧ w < 4294967296) : gimmL 83 w = immL 83 w := by
  have e : orU (partL w 7 5) (shU (partL w 25 7) 5) = w / 128 % 32 + w / 33554432 * 32 := by
    rw [p_7_5, p_25_7, sh_5, orU_add 5 _ _ (by omega) (by omega) (by omega) (by omega) (by omega) (by omega)]; omega
  rw [i_S w h]
  show rsgnL (orU (partL w 7 5) (shU (partL w 25 7) 5)) 12 = _
  rw [e, rsgn_12 _ (by omega)]
  split <;> split <;> omega
theorem orB (a b c d : Int) (h1 : 0 ≤ a ∧ a < 16) (h2 : 0 ≤ b ∧ b < 64) (h3 : 0 ≤ c ∧ c < 2) (h4 : 0 ≤ d ∧ d < 2) : orU (orU (orU (a * 2) (b * 32)) (c * 2048)) (d * 4096) = a * 2 + b * 32 + c * 2048 + d * 4096 := by
  rw [orU_add 5 (a * 2) (b * 32) (by omega) (by omega) (by omega) (by omega) (by omega) (by omega)]
  rw [orU_add 11 _ (c * 2048) (by omega) (by omega) (by omega) (by omega) (by omega) (by omega)]
  rw [orU_add 12 _ (d * 4096) (by omega) (by omega) (by omega) (by omega) (by omega) (by omega)]
theorem orJ (a b c d : Int) (h1 : 0 ≤ a ∧ a < 1024) (h2 : 0 ≤ b ∧ b < 2) (h3 : 0 ≤ c ∧ c < 256) (h4 : 0 ≤ d ∧ d < 2) : orU (orU (orU (a * 2) (b * 2048)) (c * 4096)) (d * 1048576) = a * 2 + b * 2048 + c * 4096 + d * 1048576 := by
  rw [orU_add 11 (a * 2) (b * 2048) (by omega) (by omega) (by omega) (by omega) (by omega) (by omega)]
  rw [orU_add 12 _ (c * 4096) (by omega) (by omega) (by omega) (by omega) (by omega) (by omega)]
  rw [orU_add 20 _ (d * 1048576) (by omega) (by omega) (by omega) (by omega) (by omega) (by omega)]
theorem mod32 (x k : Int) (h : 0 ≤ x * k ∧ x * k < 4294967296) : x * k % 4294967296 = x * k := Int.emod_eq_of_lt h.1 h.2
def bV (w : Int) : Int := w / 256 % 16 * 2 + w / 33554432 % 64 * 32 + w / 128 % 2 * 2048 + w / 2147483648 * 4096
theorem i_B (w : Int) (h : 0 ≤ w ∧ w < 4294967296) : immL 66 w = if bV w < 4096 then bV w else bV w - 8192 := by
  have e : orU (orU (orU (bitsL w 7 1 11) (bitsL w 8 4 1)) (bitsL w 25 6 5)) (bitsL w 31 1 12) = bV w := by
    rw [show orU (orU (orU (bitsL w 7 1 11) (bitsL w 8 4 1)) (bitsL w 25 6 5)) (bitsL w 31 1 12) = orU (orU (orU (bitsL w 8 4 1) (bitsL w 25 6 5)) (bitsL w 7 1 11)) (bitsL w 31 1 12) by ac_rfl, b_7_1_11, b_8_4_1, b_25_6_5, b_31_1_12, mod32 _ 2 (by omega), mod32 _ 32 (by omega), mod32 _ 2048 (by omega), mod32 _ 4096 (by omega)]
    rw [orB _ _ _ _ (by omega) (by omega) (by omega) (by omega)]
    unfold bV; omega
  show sgnL _ 13 = _
  rw [e, sgn_13 _ (by unfold bV; omega)]
theorem gi_B (w : Int) (h : 0 ≤ w ∧ w < 4294967296) : gimmL 66 w = immL 66 w := by
  have e : orU (orU (orU (shU (partL w 8 4) 1) (shU (partL w 25 6) 5)) (shU (partL w 7 1) 11)) (shU (partL w 31 1) 12) = bV w := by
    rw [p_8_4, p_25_6, p_7_1, p_31_1, sh_1, sh_5, sh_11, sh_12, mod32 _ 2 (by omega), mod32 _ 32 (by omega), mod32 _ 2048 (by omega), mod32 _ 4096 (by omega)]
    rw [orB _ _ _ _ (by omega) (by omega) (by omega) (by omega)]
    unfold bV; omega
  rw [i_B w h]
  show rsgnL _ 13 = _
  rw [e, rsgn_13 _ (by unfold bV; omega)]
def jV (w : Int) : Int := w / 2097152 % 1024 * 2 + w / 1048576 % 2 * 2048 + w / 4096 % 256 * 4096 + w / 2147483648 * 1048576
theorem i_J (w : Int) (h : 0 ≤ w ∧ w < 4294967296) : immL 74 w = if jV w < 1048576 then jV w else jV w - 2097152 := by
  have e : orU (orU (orU (bitsL w 12 8 12) (bitsL w 20 1 11)) (bitsL w 21 10 1)) (bitsL w 31 1 20) = jV w := by
    rw [show orU (orU (orU (bitsL w 12 8 12) (bitsL w 20 1 11)) (bitsL w 21 10 1)) (bitsL w 31 1 20) = orU (orU (orU (bitsL w 21 10 1) (bitsL w 20 1 11)) (bitsL w 12 8 12)) (bitsL w 31 1 20) by ac_rfl, b_12_8_12, b_20_1_11, b_21_10_1, b_31_1_20, mod32 _ 2 (by omega), mod32 _ 2048 (by omega), mod32 _ 4096 (by omega), mod32 _ 1048576 (by omega)]
    rw [orJ _ _ _ _ (by omega) (by omega) (by omega) (by omega)]
    unfold jV; omega
  show sgnL _ 21 = _
  rw [e, sgn_21 _ (by unfold jV; omega)]
theorem gi_J (w : Int) (h : 0 ≤ w ∧ w < 4294967296) : gimmL 74 w = immL 74 w := by
  have e : orU (orU (orU (shU (partL w 21 10) 1) (shU (partL w 20 1) 11)) (shU (partL w 12 8) 12)) (shU (partL w 31 1) 20) = jV w := by
    rw [p_21_10, p_20_1, p_12_8, p_31_1, sh_1, sh_11, sh_12, sh_20, mod32 _ 2 (by omega), mod32 _ 2048 (by omega), mod32 _ 4096 (by omega), mod32 _ 1048576 (by omega)]
    rw [orJ _ _ _ _ (by omega) (by omega) (by omega) (by omega)]
    unfold jV; omega
  rw [i_J w h]
  show rsgnL _ 21 = _
  rw [e, rsgn_21 _ (by unfold jV; omega)]
theorem i_I (w : Int) (h : 0 ≤ w ∧ w < 4294967296) : immL 73 w = if w / 1048576 < 2048 then w / 1048576 else w / 1048576 - 4096 := by
  show sgnL (shrI .u32 w 20) 12 = _
  rw [sr_20, sgn_12 _ (by omega)]
theorem gi_I (w : Int) (h : 0 ≤ w ∧ w < 4294967296) : gimmL 73 w = immL 73 w := by
  rw [i_I w h]
  show rsgnL (partL w 20 12) 12 = _
  rw [p_20_12, rsgn_12 _ (by omega), show w / 1048576 % 4096 = w / 1048576 by omega]
theorem i_U (w : Int) (h : 0 ≤ w ∧ w < 4294967296) : immL 85 w = if w / 4096 < 524288 then w / 4096 else w / 4096 - 1048576 := by
  show sgnL (shrI .u32 w 12) 20 = _
  rw [sr_12, sgn_20 _ (by omega)]
theorem gi_U (w : Int) (h : 0 ≤ w ∧ w < 4294967296) : gimmL 85 w = immL 85 w := by
  rw [i_U w h]
  show rsgnL (partL w 12 20) 20 = _
  rw [p_12_20, rsgn_20 _ (by omega), show w / 4096 % 1048576 = w / 4096 by omega]
theorem i_H (w : Int) : immL 72 w = w / 1048576 % 64 := by
  show IntKind.i64.wrap (andI .u32 (shrI .u32 w 20) 63) = _
  rw [sr_20, show andI .u32 (w / 1048576) 63 = w / 1048576 % 64 from an_6 _]; exact i64w (by omega)
theorem gi_H (w : Int) : gimmL 72 w = w / 1048576 % 64 := by
  show IntKind.i64.wrap (partL w 20 6) = _
  rw [p_20_6]; exact i64w (by omega)
theorem gi_h (w : Int) : gimmL 104 w = w / 1048576 % 32 := by
  show IntKind.i64.wrap (partL w 20 5) = _
  rw [p_20_5]; exact i64w (by omega)
end Go.Vm.Rv
