import Derived.Test.YtlcaoocfajkljaaDoorRvW5
/- Words of 32 bits as sums. -/
namespace Go.Vm.Rv
theorem ofInt_toNat (x : Int) : ((BitVec.ofInt 32 x).toNat : Int) = x % 4294967296 := by
  rw [BitVec.toNat_ofInt]
  have : (0 : Int) ≤ x % 4294967296 := Int.emod_nonneg _ (by decide)
  show ((x % ((2 ^ 32 : Nat) : Int)).toNat : Int) = _
  omega
theorem orU_eq (a b : Int) : orU a b = ((BitVec.ofInt 32 a ||| BitVec.ofInt 32 b).toNat : Int) := by
  show IntKind.u32.wrap ((BitVec.ofInt 32 a ||| BitVec.ofInt 32 b).toNat : Int) = _
  have h := (BitVec.ofInt 32 a ||| BitVec.ofInt 32 b).isLt
  rw [u32w]; omega
theorem ofInt_nat {w : Nat} (v : BitVec w) : BitVec.ofInt w (v.toNat : Int) = v := by
  apply BitVec.eq_of_toNat_eq
  rw [BitVec.toNat_ofInt]
  have h := v.isLt
  rw [← Int.natCast_emod, Int.toNat_natCast, Nat.mod_eq_of_lt h]
theorem ofInt_orU (a b : Int) : BitVec.ofInt 32 (orU a b) = BitVec.ofInt 32 a ||| BitVec.ofInt 32 b := by rw [orU_eq, ofInt_nat]
theorem orU_assoc (a b c : Int) : orU (orU a b) c = orU a (orU b c) := by
  rw [orU_eq, orU_eq a (orU b c), ofInt_orU, ofInt_orU, BitVec.or_assoc]
theorem orU_comm (a b : Int) : orU a b = orU b a := by rw [orU_eq, orU_eq, BitVec.or_comm]
instance : Std.Associative orU := ⟨orU_assoc⟩
instance : Std.Commutative orU := ⟨orU_comm⟩
/-- What lies below 2 ^ k and a multiple of it. -/
theorem orU_add (k : Nat) (a b : Int) (ha : 0 ≤ a) (hk : a < 2 ^ k) (hb : b % 2 ^ k = 0) (hb0 : 0 ≤ b) (hs : b < 4294967296) (hs' : a < 4294967296) : orU a b = a + b := by
  rw [orU_eq, BitVec.toNat_or]
  have e1 : (BitVec.ofInt 32 a).toNat = a.toNat := by have := ofInt_toNat a; omega
  have e2 : (BitVec.ofInt 32 b).toNat = b.toNat := by have := ofInt_toNat b; omega
  rw [e1, e2]
  have hka : a.toNat < 2 ^ k := by
    have : ((a.toNat : Nat) : Int) < ((2 ^ k : Nat) : Int) := by rw [Int.toNat_of_nonneg ha]; simpa using hk
    exact Int.ofNat_lt.1 this
  have hkb : b.toNat % 2 ^ k = 0 := by
    have : ((b.toNat % 2 ^ k : Nat) : Int) = 0 := by
      rw [Int.natCast_emod, Int.toNat_of_nonneg hb0]; simpa using hb
    exact Int.ofNat_eq_zero.1 this
  obtain ⟨q, hq⟩ := Nat.dvd_of_mod_eq_zero hkb
  have : a.toNat ||| b.toNat = a.toNat + b.toNat := by
    rw [hq, Nat.or_comm, Nat.add_comm]
    exact (Nat.two_pow_add_eq_or_of_lt hka q).symm
  rw [this]; omega
theorem and_mask (c : Nat) (hc : c ≤ 32) (x : Int) : andI .u32 x (2 ^ c - 1) = x % 2 ^ c := by
  show IntKind.u32.wrap ((BitVec.ofInt 32 x &&& BitVec.ofInt 32 (2 ^ c - 1)).toNat : Int) = _
  have h2 : (2 ^ c : Nat) ≤ 2 ^ 32 := Nat.pow_le_pow_right (by decide) hc
  have hp : 0 < 2 ^ c := Nat.two_pow_pos c
  have e2 : (BitVec.ofInt 32 (2 ^ c - 1)).toNat = 2 ^ c - 1 := by
    have := ofInt_toNat (2 ^ c - 1)
    have h3 : ((2 : Int) ^ c - 1) % 4294967296 = 2 ^ c - 1 := by
      have h7 : ((2 ^ c : Nat) : Int) = (2 : Int) ^ c := Int.natCast_pow 2 c
      have h8 : (2 ^ 32 : Nat) = 4294967296 := rfl
      rw [h8] at h2
      apply Int.emod_eq_of_lt
      · omega
      · omega
    rw [h3] at this
    have h4 : ((2 ^ c - 1 : Nat) : Int) = 2 ^ c - 1 := by
      have := Int.natCast_pow 2 c
      have h7 : ((2 : Nat) : Int) ^ c = (2 : Int) ^ c := rfl
      omega
    exact Int.ofNat.inj (by rw [show Int.ofNat _ = (((BitVec.ofInt 32 (2 ^ c - 1)).toNat : Nat) : Int) from rfl, this, ← h4]; rfl)
  rw [BitVec.toNat_and, e2, Nat.and_two_pow_sub_one_eq_mod]
  have e1 := ofInt_toNat x
  have hlt := (BitVec.ofInt 32 x).isLt
  have h5 : ((BitVec.ofInt 32 x).toNat % 2 ^ c : Nat) < 2 ^ c := Nat.mod_lt _ hp
  rw [u32w (by omega), Int.natCast_emod, e1]
  have h6 : ((2 ^ c : Nat) : Int) ∣ 4294967296 := by
    exact Int.natCast_dvd_natCast.2 (Nat.pow_dvd_pow 2 hc)
  rw [Int.emod_emod_of_dvd _ h6, Int.natCast_pow]; rfl
theorem shl_u32 (a b : Int) (k : Nat) (hb : b = k) (hk : k ≤ 32) : shlI .u32 a b = a * 2 ^ k % 4294967296 := by
  subst hb
  show IntKind.u32.wrap (a * 2 ^ (min (k : Int).toNat 32)) = _
  rw [u32m, Int.toNat_natCast, Nat.min_eq_left hk]
theorem shr_eq (kk : IntKind) (a b : Int) (k : Nat) (hb : b = k) (hk : k ≤ kk.bits) : shrI kk a b = a / 2 ^ k := by
  subst hb
  show a.fdiv (2 ^ (min (k : Int).toNat kk.bits)) = _
  rw [Int.toNat_natCast, Nat.min_eq_left hk, Int.fdiv_eq_ediv_of_nonneg _ (Int.pow_nonneg (by decide))]
end Go.Vm.Rv
/- The words' fields as numbers. -/
namespace Go.Vm.Rv
theorem mask_eq {C : Int} (c : Nat) (hC : C = c) (hc : c < 32) : IntKind.u32.wrap (shlI .u32 1 C - 1) = 2 ^ c - 1 := by
  have h2 : (2 ^ c : Nat) < 2 ^ 32 := Nat.pow_lt_pow_right (by decide) hc
  have h8 : (2 ^ 32 : Nat) = 4294967296 := rfl
  have h7 : ((2 ^ c : Nat) : Int) = (2 : Int) ^ c := Int.natCast_pow 2 c
  have hp : 0 < 2 ^ c := Nat.two_pow_pos c
  rw [h8] at h2
  rw [shl_u32 1 C c hC (by omega), Int.one_mul, Int.emod_eq_of_lt (by omega) (by omega), u32w (by omega)]
theorem bits_num {F C A : Int} (f c a : Nat) (hF : F = f) (hC : C = c) (hA : A = a) (h1 : f ≤ 32) (h2 : c < 32) (h3 : a ≤ 32) (n : Int) : bitsL n F C A = (n / 2 ^ f % 2 ^ c) * 2 ^ a % 4294967296 := by
  unfold bitsL
  rw [mask_eq c hC h2, and_mask c (by omega), shr_eq .u32 n F f hF h1, shl_u32 _ A a hA h3]
theorem rbits_num {F C : Int} (f c : Nat) (hF : F = f) (hC : C = c) (h1 : f ≤ 64) (h2 : c < 32) (n : Int) : rbitsL n F C = n / 2 ^ f % 4294967296 % 2 ^ c := by
  unfold rbitsL
  rw [mask_eq c hC h2, and_mask c (by omega), shr_eq .i64 n F f hF h1, u32m]
theorem part_num {F C : Int} (f c : Nat) (hF : F = f) (hC : C = c) (h1 : f ≤ 32) (h2 : c < 32) (n : Int) : partL n F C = n / 2 ^ f % 2 ^ c := by
  unfold partL
  rw [mask_eq c hC h2, and_mask c (by omega), shr_eq .u32 n F f hF h1]
theorem b_0_12_20 (n : Int) : bitsL n 0 12 20 = n / 1 % 4096 * 1048576 % 4294967296 := bits_num 0 12 20 rfl rfl rfl (by decide) (by decide) (by decide) n
theorem b_0_6_20 (n : Int) : bitsL n 0 6 20 = n / 1 % 64 * 1048576 % 4294967296 := bits_num 0 6 20 rfl rfl rfl (by decide) (by decide) (by decide) n
theorem b_0_5_7 (n : Int) : bitsL n 0 5 7 = n / 1 % 32 * 128 % 4294967296 := bits_num 0 5 7 rfl rfl rfl (by decide) (by decide) (by decide) n
theorem b_5_7_25 (n : Int) : bitsL n 5 7 25 = n / 32 % 128 * 33554432 % 4294967296 := bits_num 5 7 25 rfl rfl rfl (by decide) (by decide) (by decide) n
theorem b_11_1_7 (n : Int) : bitsL n 11 1 7 = n / 2048 % 2 * 128 % 4294967296 := bits_num 11 1 7 rfl rfl rfl (by decide) (by decide) (by decide) n
theorem b_1_4_8 (n : Int) : bitsL n 1 4 8 = n / 2 % 16 * 256 % 4294967296 := bits_num 1 4 8 rfl rfl rfl (by decide) (by decide) (by decide) n
theorem b_5_6_25 (n : Int) : bitsL n 5 6 25 = n / 32 % 64 * 33554432 % 4294967296 := bits_num 5 6 25 rfl rfl rfl (by decide) (by decide) (by decide) n
theorem b_12_1_31 (n : Int) : bitsL n 12 1 31 = n / 4096 % 2 * 2147483648 % 4294967296 := bits_num 12 1 31 rfl rfl rfl (by decide) (by decide) (by decide) n
theorem b_0_20_12 (n : Int) : bitsL n 0 20 12 = n / 1 % 1048576 * 4096 % 4294967296 := bits_num 0 20 12 rfl rfl rfl (by decide) (by decide) (by decide) n
theorem b_12_8_12 (n : Int) : bitsL n 12 8 12 = n / 4096 % 256 * 4096 % 4294967296 := bits_num 12 8 12 rfl rfl rfl (by decide) (by decide) (by decide) n
theorem b_11_1_20 (n : Int) : bitsL n 11 1 20 = n / 2048 % 2 * 1048576 % 4294967296 := bits_num 11 1 20 rfl rfl rfl (by decide) (by decide) (by decide) n
theorem b_1_10_21 (n : Int) : bitsL n 1 10 21 = n / 2 % 1024 * 2097152 % 4294967296 := bits_num 1 10 21 rfl rfl rfl (by decide) (by decide) (by decide) n
theorem b_20_1_31 (n : Int) : bitsL n 20 1 31 = n / 1048576 % 2 * 2147483648 % 4294967296 := bits_num 20 1 31 rfl rfl rfl (by decide) (by decide) (by decide) n
theorem b_7_5_0 (n : Int) : bitsL n 7 5 0 = n / 128 % 32 * 1 % 4294967296 := bits_num 7 5 0 rfl rfl rfl (by decide) (by decide) (by decide) n
theorem b_25_7_5 (n : Int) : bitsL n 25 7 5 = n / 33554432 % 128 * 32 % 4294967296 := bits_num 25 7 5 rfl rfl rfl (by decide) (by decide) (by decide) n
theorem b_7_1_11 (n : Int) : bitsL n 7 1 11 = n / 128 % 2 * 2048 % 4294967296 := bits_num 7 1 11 rfl rfl rfl (by decide) (by decide) (by decide) n
theorem b_8_4_1 (n : Int) : bitsL n 8 4 1 = n / 256 % 16 * 2 % 4294967296 := bits_num 8 4 1 rfl rfl rfl (by decide) (by decide) (by decide) n
theorem b_25_6_5 (n : Int) : bitsL n 25 6 5 = n / 33554432 % 64 * 32 % 4294967296 := bits_num 25 6 5 rfl rfl rfl (by decide) (by decide) (by decide) n
theorem b_31_1_12 (n : Int) : bitsL n 31 1 12 = n / 2147483648 % 2 * 4096 % 4294967296 := bits_num 31 1 12 rfl rfl rfl (by decide) (by decide) (by decide) n
theorem b_20_1_11 (n : Int) : bitsL n 20 1 11 = n / 1048576 % 2 * 2048 % 4294967296 := bits_num 20 1 11 rfl rfl rfl (by decide) (by decide) (by decide) n
theorem b_21_10_1 (n : Int) : bitsL n 21 10 1 = n / 2097152 % 1024 * 2 % 4294967296 := bits_num 21 10 1 rfl rfl rfl (by decide) (by decide) (by decide) n
theorem b_31_1_20 (n : Int) : bitsL n 31 1 20 = n / 2147483648 % 2 * 1048576 % 4294967296 := bits_num 31 1 20 rfl rfl rfl (by decide) (by decide) (by decide) n
theorem rb_0_12 (n : Int) : rbitsL n 0 12 = n / 1 % 4294967296 % 4096 := rbits_num 0 12 rfl rfl (by decide) (by decide) n
theorem rb_0_5 (n : Int) : rbitsL n 0 5 = n / 1 % 4294967296 % 32 := rbits_num 0 5 rfl rfl (by decide) (by decide) n
theorem rb_5_7 (n : Int) : rbitsL n 5 7 = n / 32 % 4294967296 % 128 := rbits_num 5 7 rfl rfl (by decide) (by decide) n
theorem rb_11_1 (n : Int) : rbitsL n 11 1 = n / 2048 % 4294967296 % 2 := rbits_num 11 1 rfl rfl (by decide) (by decide) n
theorem rb_1_4 (n : Int) : rbitsL n 1 4 = n / 2 % 4294967296 % 16 := rbits_num 1 4 rfl rfl (by decide) (by decide) n
theorem rb_5_6 (n : Int) : rbitsL n 5 6 = n / 32 % 4294967296 % 64 := rbits_num 5 6 rfl rfl (by decide) (by decide) n
theorem rb_12_1 (n : Int) : rbitsL n 12 1 = n / 4096 % 4294967296 % 2 := rbits_num 12 1 rfl rfl (by decide) (by decide) n
theorem rb_0_20 (n : Int) : rbitsL n 0 20 = n / 1 % 4294967296 % 1048576 := rbits_num 0 20 rfl rfl (by decide) (by decide) n
theorem rb_12_8 (n : Int) : rbitsL n 12 8 = n / 4096 % 4294967296 % 256 := rbits_num 12 8 rfl rfl (by decide) (by decide) n
theorem rb_1_10 (n : Int) : rbitsL n 1 10 = n / 2 % 4294967296 % 1024 := rbits_num 1 10 rfl rfl (by decide) (by decide) n
theorem rb_20_1 (n : Int) : rbitsL n 20 1 = n / 1048576 % 4294967296 % 2 := rbits_num 20 1 rfl rfl (by decide) (by decide) n
theorem p_7_5 (n : Int) : partL n 7 5 = n / 128 % 32 := part_num 7 5 rfl rfl (by decide) (by decide) n
theorem p_15_5 (n : Int) : partL n 15 5 = n / 32768 % 32 := part_num 15 5 rfl rfl (by decide) (by decide) n
theorem p_20_5 (n : Int) : partL n 20 5 = n / 1048576 % 32 := part_num 20 5 rfl rfl (by decide) (by decide) n
theorem p_20_12 (n : Int) : partL n 20 12 = n / 1048576 % 4096 := part_num 20 12 rfl rfl (by decide) (by decide) n
theorem p_20_6 (n : Int) : partL n 20 6 = n / 1048576 % 64 := part_num 20 6 rfl rfl (by decide) (by decide) n
theorem p_25_7 (n : Int) : partL n 25 7 = n / 33554432 % 128 := part_num 25 7 rfl rfl (by decide) (by decide) n
theorem p_8_4 (n : Int) : partL n 8 4 = n / 256 % 16 := part_num 8 4 rfl rfl (by decide) (by decide) n
theorem p_25_6 (n : Int) : partL n 25 6 = n / 33554432 % 64 := part_num 25 6 rfl rfl (by decide) (by decide) n
theorem p_7_1 (n : Int) : partL n 7 1 = n / 128 % 2 := part_num 7 1 rfl rfl (by decide) (by decide) n
theorem p_31_1 (n : Int) : partL n 31 1 = n / 2147483648 % 2 := part_num 31 1 rfl rfl (by decide) (by decide) n
theorem p_12_20 (n : Int) : partL n 12 20 = n / 4096 % 1048576 := part_num 12 20 rfl rfl (by decide) (by decide) n
theorem p_21_10 (n : Int) : partL n 21 10 = n / 2097152 % 1024 := part_num 21 10 rfl rfl (by decide) (by decide) n
theorem p_20_1 (n : Int) : partL n 20 1 = n / 1048576 % 2 := part_num 20 1 rfl rfl (by decide) (by decide) n
theorem p_12_8 (n : Int) : partL n 12 8 = n / 4096 % 256 := part_num 12 8 rfl rfl (by decide) (by decide) n
theorem sh_12 (n : Int) : shU n 12 = n * 4096 % 4294967296 := shl_u32 n 12 12 rfl (by decide)
theorem sh_7 (n : Int) : shU n 7 = n * 128 % 4294967296 := shl_u32 n 7 7 rfl (by decide)
theorem sh_15 (n : Int) : shU n 15 = n * 32768 % 4294967296 := shl_u32 n 15 15 rfl (by decide)
theorem sh_20 (n : Int) : shU n 20 = n * 1048576 % 4294967296 := shl_u32 n 20 20 rfl (by decide)
theorem sh_25 (n : Int) : shU n 25 = n * 33554432 % 4294967296 := shl_u32 n 25 25 rfl (by decide)
theorem sh_8 (n : Int) : shU n 8 = n * 256 % 4294967296 := shl_u32 n 8 8 rfl (by decide)
theorem sh_31 (n : Int) : shU n 31 = n * 2147483648 % 4294967296 := shl_u32 n 31 31 rfl (by decide)
theorem sh_21 (n : Int) : shU n 21 = n * 2097152 % 4294967296 := shl_u32 n 21 21 rfl (by decide)
theorem sh_5 (n : Int) : shU n 5 = n * 32 % 4294967296 := shl_u32 n 5 5 rfl (by decide)
theorem sh_1 (n : Int) : shU n 1 = n * 2 % 4294967296 := shl_u32 n 1 1 rfl (by decide)
theorem sh_11 (n : Int) : shU n 11 = n * 2048 % 4294967296 := shl_u32 n 11 11 rfl (by decide)
theorem sr_7 (n : Int) : shrI .u32 n 7 = n / 128 := shr_eq .u32 n 7 7 rfl (by decide)
theorem sr_12 (n : Int) : shrI .u32 n 12 = n / 4096 := shr_eq .u32 n 12 12 rfl (by decide)
theorem sr_15 (n : Int) : shrI .u32 n 15 = n / 32768 := shr_eq .u32 n 15 15 rfl (by decide)
theorem sr_20 (n : Int) : shrI .u32 n 20 = n / 1048576 := shr_eq .u32 n 20 20 rfl (by decide)
theorem sr_25 (n : Int) : shrI .u32 n 25 = n / 33554432 := shr_eq .u32 n 25 25 rfl (by decide)
theorem sr_26 (n : Int) : shrI .u32 n 26 = n / 67108864 := shr_eq .u32 n 26 26 rfl (by decide)
theorem an_3 (n : Int) : andI .u32 n 7 = n % 8 := and_mask 3 (by decide) n
theorem an_5 (n : Int) : andI .u32 n 31 = n % 32 := and_mask 5 (by decide) n
theorem an_6 (n : Int) : andI .u32 n 63 = n % 64 := and_mask 6 (by decide) n
theorem an_7 (n : Int) : andI .u32 n 127 = n % 128 := and_mask 7 (by decide) n
theorem sl_1 (n : Int) : shlI .u32 n 1 = n * 2 % 4294967296 := shl_u32 n 1 1 rfl (by decide)
theorem sgn_12 (n : Int) (h : 0 ≤ n ∧ n < 4096) : sgnL n 12 = if n < 2048 then n else n - 4096 := by
  unfold sgnL
  rw [show IntKind.u64.wrap (32 - 12) = 20 from rfl, shl_u32 n 20 20 rfl (by decide), shr_eq .i32 _ 20 20 rfl (by decide)]
  show IntKind.i64.wrap (IntKind.i32.wrap (n * 1048576 % 4294967296) / 1048576) = _
  rw [i32m, i64w (by omega)]
  split <;> omega
theorem rsgn_12 (n : Int) (h : 0 ≤ n ∧ n < 4096) : rsgnL n 12 = if n < 2048 then n else n - 4096 := by
  unfold rsgnL
  rw [show IntKind.u32.wrap (12 - 1) = 11 from rfl, shr_eq .u32 n 11 11 rfl (by decide)]
  have ha : andI .u32 (n / 2 ^ 11) 1 = n / 2 ^ 11 % 2 := and_mask 1 (by decide) _
  have hs : shlI .i64 1 12 = 4096 := rfl
  rw [ha, hs]
  show (if n / 2048 % 2 = 1 then _ else _) = _
  rw [i64w (n := n) (by omega)]
  split
  · rw [i64w (by omega), if_neg (by omega)]
  · rw [if_pos (by omega)]
theorem sgn_13 (n : Int) (h : 0 ≤ n ∧ n < 8192) : sgnL n 13 = if n < 4096 then n else n - 8192 := by
  unfold sgnL
  rw [show IntKind.u64.wrap (32 - 13) = 19 from rfl, shl_u32 n 19 19 rfl (by decide), shr_eq .i32 _ 19 19 rfl (by decide)]
  show IntKind.i64.wrap (IntKind.i32.wrap (n * 524288 % 4294967296) / 524288) = _
  rw [i32m, i64w (by omega)]
  split <;> omega
theorem rsgn_13 (n : Int) (h : 0 ≤ n ∧ n < 8192) : rsgnL n 13 = if n < 4096 then n else n - 8192 := by
  unfold rsgnL
  rw [show IntKind.u32.wrap (13 - 1) = 12 from rfl, shr_eq .u32 n 12 12 rfl (by decide)]
  have ha : andI .u32 (n / 2 ^ 12) 1 = n / 2 ^ 12 % 2 := and_mask 1 (by decide) _
  have hs : shlI .i64 1 13 = 8192 := rfl
  rw [ha, hs]
  show (if n / 4096 % 2 = 1 then _ else _) = _
  rw [i64w (n := n) (by omega)]
  split
  · rw [i64w (by omega), if_neg (by omega)]
  · rw [if_pos (by omega)]
theorem sgn_20 (n : Int) (h : 0 ≤ n ∧ n < 1048576) : sgnL n 20 = if n < 524288 then n else n - 1048576 := by
  unfold sgnL
  rw [show IntKind.u64.wrap (32 - 20) = 12 from rfl, shl_u32 n 12 12 rfl (by decide), shr_eq .i32 _ 12 12 rfl (by decide)]
  show IntKind.i64.wrap (IntKind.i32.wrap (n * 4096 % 4294967296) / 4096) = _
  rw [i32m, i64w (by omega)]
  split <;> omega
theorem rsgn_20 (n : Int) (h : 0 ≤ n ∧ n < 1048576) : rsgnL n 20 = if n < 524288 then n else n - 1048576 := by
  unfold rsgnL
  rw [show IntKind.u32.wrap (20 - 1) = 19 from rfl, shr_eq .u32 n 19 19 rfl (by decide)]
  have ha : andI .u32 (n / 2 ^ 19) 1 = n / 2 ^ 19 % 2 := and_mask 1 (by decide) _
  have hs : shlI .i64 1 20 = 1048576 := rfl
  rw [ha, hs]
  show (if n / 524288 % 2 = 1 then _ else _) = _
  rw [i64w (n := n) (by omega)]
  split
  · rw [i64w (by omega), if_neg (by omega)]
  · rw [if_pos (by omega)]
theorem sgn_21 (n : Int) (h : 0 ≤ n ∧ n < 2097152) : sgnL n 21 = if n < 1048576 then n else n - 2097152 := by
  unfold sgnL
  rw [show IntKind.u64.wrap (32 - 21) = 11 from rfl, shl_u32 n 11 11 rfl (by decide), shr_eq .i32 _ 11 11 rfl (by decide)]
  show IntKind.i64.wrap (IntKind.i32.wrap (n * 2048 % 4294967296) / 2048) = _
  rw [i32m, i64w (by omega)]
  split <;> omega
theorem rsgn_21 (n : Int) (h : 0 ≤ n ∧ n < 2097152) : rsgnL n 21 = if n < 1048576 then n else n - 2097152 := by
  unfold rsgnL
  rw [show IntKind.u32.wrap (21 - 1) = 20 from rfl, shr_eq .u32 n 20 20 rfl (by decide)]
  have ha : andI .u32 (n / 2 ^ 20) 1 = n / 2 ^ 20 % 2 := and_mask 1 (by decide) _
  have hs : shlI .i64 1 21 = 2097152 := rfl
  rw [ha, hs]
  show (if n / 1048576 % 2 = 1 then _ else _) = _
  rw [i64w (n := n) (by omega)]
  split
  · rw [i64w (by omega), if_neg (by omega)]
  · rw [if_pos (by omega)]
end Go.Vm.Rv
