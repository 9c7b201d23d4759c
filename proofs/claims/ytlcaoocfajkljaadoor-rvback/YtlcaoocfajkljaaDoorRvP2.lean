import Derived.Test.YtlcaoocfajkljaaDoorRvP
/- Words as sums of their fields. -/
namespace Go.Vm.Rv
set_option maxRecDepth 10000
theorem orU_zero (a : Int) (h : 0 ≤ a ∧ a < 4294967296) : orU a 0 = a := by
  have := orU_add 32 a 0 h.1 (by simpa using h.2) (by decide) (by decide) (by decide) h.2
  omega
theorem sum6 (c lo f3 r1 r2 hi : Int) (hc : 0 ≤ c ∧ c < 128) (h0 : 0 ≤ lo ∧ lo < 32) (h1 : 0 ≤ f3 ∧ f3 < 8) (h2 : 0 ≤ r1 ∧ r1 < 32) (h3 : 0 ≤ r2 ∧ r2 < 32) (h4 : 0 ≤ hi ∧ hi < 128) :
    orU (orU (orU (orU (orU c (lo * 128)) (f3 * 4096)) (r1 * 32768)) (r2 * 1048576)) (hi * 33554432) = c + lo * 128 + f3 * 4096 + r1 * 32768 + r2 * 1048576 + hi * 33554432 := by
  rw [orU_add 7 c (lo * 128) (by omega) (by omega) (by omega) (by omega) (by omega) (by omega)]
  rw [orU_add 12 _ (f3 * 4096) (by omega) (by omega) (by omega) (by omega) (by omega) (by omega)]
  rw [orU_add 15 _ (r1 * 32768) (by omega) (by omega) (by omega) (by omega) (by omega) (by omega)]
  rw [orU_add 20 _ (r2 * 1048576) (by omega) (by omega) (by omega) (by omega) (by omega) (by omega)]
  rw [orU_add 25 _ (hi * 33554432) (by omega) (by omega) (by omega) (by omega) (by omega) (by omega)]
/-- The part that all forms share. -/
def baseL (c f3 rd r1 r2 : Int) : Int := orU (orU (orU (orU c (shU f3 12)) (shU (u32 rd) 7)) (shU (u32 r1) 15)) (shU (u32 r2) 20)
theorem base_or (c f3 rd r1 r2 : Int) (h0 : 0 ≤ rd ∧ rd < 32) (h1 : 0 ≤ f3 ∧ f3 < 8) (h2 : 0 ≤ r1 ∧ r1 < 32) (h3 : 0 ≤ r2 ∧ r2 < 32) :
    baseL c f3 rd r1 r2 = orU (orU (orU (orU c (rd * 128)) (f3 * 4096)) (r1 * 32768)) (r2 * 1048576) := by
  unfold baseL u32
  rw [sh_12, sh_7, sh_15, sh_20, u32w (by omega), u32w (by omega), u32w (by omega), Int.emod_eq_of_lt (a := f3 * 4096) (by omega) (by omega), Int.emod_eq_of_lt (a := rd * 128) (by omega) (by omega), Int.emod_eq_of_lt (a := r1 * 32768) (by omega) (by omega), Int.emod_eq_of_lt (a := r2 * 1048576) (by omega) (by omega)]
  ac_rfl
theorem base_sum (c f3 rd r1 r2 : Int) (hc : 0 ≤ c ∧ c < 128) (h0 : 0 ≤ rd ∧ rd < 32) (h1 : 0 ≤ f3 ∧ f3 < 8) (h2 : 0 ≤ r1 ∧ r1 < 32) (h3 : 0 ≤ r2 ∧ r2 < 32) :
    baseL c f3 rd r1 r2 = c + rd * 128 + f3 * 4096 + r1 * 32768 + r2 * 1048576 := by
  rw [base_or c f3 rd r1 r2 h0 h1 h2 h3, orU_add 7 c (rd * 128) (by omega) (by omega) (by omega) (by omega) (by omega) (by omega),
    orU_add 12 _ (f3 * 4096) (by omega) (by omega) (by omega) (by omega) (by omega) (by omega),
    orU_add 15 _ (r1 * 32768) (by omega) (by omega) (by omega) (by omega) (by omega) (by omega),
    orU_add 20 _ (r2 * 1048576) (by omega) (by omega) (by omega) (by omega) (by omega) (by omega)]
theorem sum_R (c f3 rd r1 r2 f7 : Int) (hc : 0 ≤ c ∧ c < 128) (h0 : 0 ≤ rd ∧ rd < 32) (h1 : 0 ≤ f3 ∧ f3 < 8) (h2 : 0 ≤ r1 ∧ r1 < 32) (h3 : 0 ≤ r2 ∧ r2 < 32) (h4 : 0 ≤ f7 ∧ f7 < 128) :
    orU (baseL c f3 rd r1 r2) (shU f7 25) = c + rd * 128 + f3 * 4096 + r1 * 32768 + r2 * 1048576 + f7 * 33554432 := by
  rw [base_sum c f3 rd r1 r2 hc h0 h1 h2 h3, sh_25, orU_add 25 _ _ (by omega) (by omega) (by omega) (by omega) (by omega) (by omega)]
  omega
theorem sum_I (c f3 rd r1 n : Int) (hc : 0 ≤ c ∧ c < 128) (h0 : 0 ≤ rd ∧ rd < 32) (h1 : 0 ≤ f3 ∧ f3 < 8) (h2 : 0 ≤ r1 ∧ r1 < 32) :
    orU (baseL c f3 rd r1 0) (bitsL (u32 n) 0 12 20) = c + rd * 128 + f3 * 4096 + r1 * 32768 + n % 4096 * 1048576 := by
  rw [base_sum c f3 rd r1 0 hc h0 h1 h2 (by decide), b_0_12_20, u32, u32m, orU_add 20 _ _ (by omega) (by omega) (by omega) (by omega) (by omega) (by omega)]
  omega
theorem sum_H (c f3 rd r1 f7 n : Int) (hc : 0 ≤ c ∧ c < 128) (h0 : 0 ≤ rd ∧ rd < 32) (h1 : 0 ≤ f3 ∧ f3 < 8) (h2 : 0 ≤ r1 ∧ r1 < 32) (h4 : f7 = 0 ∨ f7 = 32) :
    orU (baseL c f3 rd r1 0) (orU (shU f7 25) (bitsL (u32 n) 0 6 20)) = c + rd * 128 + f3 * 4096 + r1 * 32768 + n % 64 * 1048576 + f7 * 33554432 := by
  rw [base_sum c f3 rd r1 0 hc h0 h1 h2 (by decide), sh_25, b_0_6_20, u32, u32m, orU_comm (f7 * 33554432 % 4294967296), orU_add 30 _ (f7 * 33554432 % 4294967296) (by omega) (by omega) (by omega) (by omega) (by omega) (by omega), orU_add 20 _ _ (by omega) (by omega) (by omega) (by omega) (by omega) (by omega)]
  omega
theorem sum_S (c f3 r1 r2 n : Int) (hc : 0 ≤ c ∧ c < 128) (h1 : 0 ≤ f3 ∧ f3 < 8) (h2 : 0 ≤ r1 ∧ r1 < 32) (h3 : 0 ≤ r2 ∧ r2 < 32) :
    orU (baseL c f3 0 r1 r2) (orU (bitsL (u32 n) 0 5 7) (bitsL (u32 n) 5 7 25)) = c + n % 32 * 128 + f3 * 4096 + r1 * 32768 + r2 * 1048576 + n / 32 % 128 * 33554432 := by
  have e1 : bitsL (u32 n) 0 5 7 = n % 32 * 128 := by rw [b_0_5_7, u32, u32m]; omega
  have e2 : bitsL (u32 n) 5 7 25 = n / 32 % 128 * 33554432 := by rw [b_5_7_25, u32, u32m]; omega
  rw [base_or c f3 0 r1 r2 (by decide) h1 h2 h3, e1, e2, Int.zero_mul, orU_zero c (by omega), ← sum6 c (n % 32) f3 r1 r2 (n / 32 % 128) hc (by omega) h1 h2 h3 (by omega)]
  ac_rfl
theorem sum_B (c f3 r1 r2 n : Int) (hc : 0 ≤ c ∧ c < 128) (h1 : 0 ≤ f3 ∧ f3 < 8) (h2 : 0 ≤ r1 ∧ r1 < 32) (h3 : 0 ≤ r2 ∧ r2 < 32) :
    orU (baseL c f3 0 r1 r2) (orU (orU (orU (bitsL (u32 n) 11 1 7) (bitsL (u32 n) 1 4 8)) (bitsL (u32 n) 5 6 25)) (bitsL (u32 n) 12 1 31)) = c + (n / 2048 % 2 + n / 2 % 16 * 2) * 128 + f3 * 4096 + r1 * 32768 + r2 * 1048576 + (n / 32 % 64 + n / 4096 % 2 * 64) * 33554432 := by
  have e1 : orU (bitsL (u32 n) 11 1 7) (bitsL (u32 n) 1 4 8) = (n / 2048 % 2 + n / 2 % 16 * 2) * 128 := by
    rw [b_11_1_7, b_1_4_8, u32, u32m, orU_add 8 _ _ (by omega) (by omega) (by omega) (by omega) (by omega) (by omega)]; omega
  have e2 : orU (bitsL (u32 n) 5 6 25) (bitsL (u32 n) 12 1 31) = (n / 32 % 64 + n / 4096 % 2 * 64) * 33554432 := by
    rw [b_5_6_25, b_12_1_31, u32, u32m, orU_add 31 _ _ (by omega) (by omega) (by omega) (by omega) (by omega) (by omega)]; omega
  rw [base_or c f3 0 r1 r2 (by decide) h1 h2 h3, orU_assoc _ (bitsL (u32 n) 5 6 25), e1, e2, Int.zero_mul, orU_zero c (by omega), ← sum6 c _ f3 r1 r2 _ hc (by omega) h1 h2 h3 (by omega)]
  ac_rfl
theorem sum_U (c rd n : Int) (hc : 0 ≤ c ∧ c < 128) (h0 : 0 ≤ rd ∧ rd < 32) :
    orU (baseL c 0 rd 0 0) (bitsL (u32 n) 0 20 12) = c + rd * 128 + n % 1048576 * 4096 := by
  rw [base_sum c 0 rd 0 0 hc h0 (by decide) (by decide) (by decide), b_0_20_12, u32, u32m, orU_add 12 _ _ (by omega) (by omega) (by omega) (by omega) (by omega) (by omega)]
  omega
theorem sum_J (c rd n : Int) (hc : 0 ≤ c ∧ c < 128) (h0 : 0 ≤ rd ∧ rd < 32) :
    orU (baseL c 0 rd 0 0) (orU (orU (orU (bitsL (u32 n) 12 8 12) (bitsL (u32 n) 11 1 20)) (bitsL (u32 n) 1 10 21)) (bitsL (u32 n) 20 1 31)) = c + rd * 128 + n / 4096 % 256 * 4096 + n / 2048 % 2 * 1048576 + n / 2 % 1024 * 2097152 + n / 1048576 % 2 * 2147483648 := by
  have e1 : bitsL (u32 n) 12 8 12 = n / 4096 % 256 * 4096 := by rw [b_12_8_12, u32, u32m]; omega
  have e2 : bitsL (u32 n) 11 1 20 = n / 2048 % 2 * 1048576 := by rw [b_11_1_20, u32, u32m]; omega
  have e3 : bitsL (u32 n) 1 10 21 = n / 2 % 1024 * 2097152 := by rw [b_1_10_21, u32, u32m]; omega
  have e4 : bitsL (u32 n) 20 1 31 = n / 1048576 % 2 * 2147483648 := by rw [b_20_1_31, u32, u32m]; omega
  rw [base_sum c 0 rd 0 0 hc h0 (by decide) (by decide) (by decide), e1, e2, e3, e4,
    orU_add 20 _ (n / 2048 % 2 * 1048576) (by omega) (by omega) (by omega) (by omega) (by omega) (by omega),
    orU_add 21 _ (n / 2 % 1024 * 2097152) (by omega) (by omega) (by omega) (by omega) (by omega) (by omega),
    orU_add 31 _ (n / 1048576 % 2 * 2147483648) (by omega) (by omega) (by omega) (by omega) (by omega) (by omega),
    orU_add 12 _ _ (by omega) (by omega) (by omega) (by omega) (by omega) (by omega)]
  omega
end Go.Vm.Rv
