import Derived.Test.YtlcaoocfajkljaaDoorRvW5
/- Words of 32 bits as sums. -/
namespace Go.Vm.Rv
theorem ofInt_toNat (x : Int) : ((BitVec.ofInt 32 x).toNat : Int) = x % 4294967296 := by
  rw [BitVec.toNat_ofInt]
  have : (0 : Int) ≤ x % 4294967296 := Int.emod_nonneg _ (by decide)
  show ((x % ((2 ^ 32 : Nat) : Int)).toNat : Int) = _
  omega
theorem orU_eq (a b : Int) : orU a b = ((BitVec.ofInt 32 a ||| BitVec.ofInt 32 b).toNat : Int) := by
  show IntKind.u32.wrap ((BitVec.ofInt 32 a ||| BitVec.ofInt 32 b).toNat : Int) = _
  have h := (BitVec.ofInt 32 a ||| BitVec.ofInt 32 b).isLt
  rw [u32w]; omega
theorem ofInt_nat {w : Nat} (v : BitVec w) : BitVec.ofInt w (v.toNat : Int) = v := by
  apply BitVec.eq_of_toNat_eq
  rw [BitVec.toNat_ofInt]
  have h := v.isLt
  rw [← Int.natCast_emod, Int.toNat_natCast, Nat.mod_eq_of_lt h]
theorem ofInt_orU (a b : Int) : BitVec.ofInt 32 (orU a b) = BitVec.ofInt 32 a ||| BitVec.ofInt 32 b := by rw [orU_eq, ofInt_nat]
theorem orU_assoc (a b c : Int) : orU (orU a b) c = orU a (orU b c) := by
  rw [orU_eq, orU_eq a (orU b c), ofInt_orU, ofInt_orU, BitVec.or_assoc]
theorem orU_comm (a b : Int) : orU a b = orU b a := by rw [orU_eq, orU_eq, BitVec.or_comm]
instance : Std.Associative orU := ⟨orU_assoc⟩
instance : Std.Commutative orU := ⟨orU_comm⟩
/-- What lies below 2 ^ k and a multiple of it. -/
theorem orU_add (k : Nat) (a b : Int) (ha : 0 ≤ a) (hk : a < 2 ^ k) (hb : b % 2 ^ k = 0) (hb0 : 0 ≤ b) (hs : b < 4294967296) (hs' : a < 4294967296) : orU a b = a + b := by
  rw [orU_eq, BitVec.toNat_or]
  have e1 : (BitVec.ofInt 32 a).toNat = a.toNat := by have := ofInt_toNat a; omega
  have e2 : (BitVec.ofInt 32 b).toNat = b.toNat := by have := ofInt_toNat b; omega
  rw [e1, e2]
  have hka : a.toNat < 2 ^ k := by
    have : ((a.toNat : Nat) : Int) < ((2 ^ k : Nat) : Int) := by rw [Int.toNat_of_nonneg ha]; simpa using hk
    exact Int.ofNat_lt.1 this
  have hkb : b.toNat % 2 ^ k = 0 := by
    have : ((b.toNat % 2 ^ k : Nat) : Int) = 0 := by
      rw [Int.natCast_emod, Int.toNat_of_nonneg hb0]; simpa using hb
    exact Int.ofNat_eq_zero.1 this
  obtain ⟨q, hq⟩ := Nat.dvd_of_mod_eq_zero hkb
  have : a.toNat ||| b.toNat = a.toNat + b.toNat := by
    rw [hq, Nat.or_comm, Nat.add_comm]
    exact (Nat.two_pow_add_eq_or_of_lt hka q).symm
  rw [this]; omega
theorem and_mask (c : Nat) (hc : c ≤ 32) (x : Int) : andI .u32 x (2 ^ c - 1) = x % 2 ^ c := by
  show IntKind.u32.wrap ((BitVec.ofInt 32 x &&& BitVec.ofInt 32 (2 ^ c - 1)).toNat : Int) = _
  have h2 : (2 ^ c : Nat) ≤ 2 ^ 32 := Nat.pow_le_pow_right (by decide) hc
  have hp : 0 < 2 ^ c := Nat.two_pow_pos c
  have e2 : (BitVec.ofInt 32 (2 ^ c - 1)).toNat = 2 ^ c - 1 := by
    have := ofInt_toNat (2 ^ c - 1)
    have h3 : ((2 : Int) ^ c - 1) % 4294967296 = 2 ^ c - 1 := by
      have h7 : ((2 ^ c : Nat) : Int) = (2 : Int) ^ c := Int.natCast_pow 2 c
      have h8 : (2 ^ 32 : Nat) = 4294967296 := rfl
      rw [h8] at h2
      apply Int.emod_eq_of_lt
      · omega
      · omega
    rw [h3] at this
    have h4 : ((2 ^ c - 1 : Nat) : Int) = 2 ^ c - 1 := by
      have := Int.natCast_pow 2 c
      have h7 : ((2 : Nat) : Int) ^ c = (2 : Int) ^ c := rfl
      omega
    exact Int.ofNat.inj (by rw [show Int.ofNat _ = (((BitVec.ofInt 32 (2 ^ c - 1)).toNat : Nat) : Int) from rfl, this, ← h4]; rfl)
  rw [BitVec.toNat_and, e2, Nat.and_two_pow_sub_one_eq_mod]
  have e1 := ofInt_toNat x
  have hlt := (BitVec.ofInt 32 x).isLt
  have h5 : ((BitVec.ofInt 32 x).toNat % 2 ^ c : Nat) < 2 ^ c := Nat.mod_lt _ hp
  rw [u32w (by omega), Int.natCast_emod, e1]
  have h6 : ((2 ^ c : Nat) : Int) ∣ 4294967296 := by
    exact Int.natCast_dvd_natCast.2 (Nat.pow_dvd_pow 2 hc)
  rw [Int.emod_emod_of_dvd _ h6, Int.natCast_pow]; rfl
theorem shl_u32 (a b : Int) (k : Nat) (hb : b = k) (hk : k ≤ 32) : shlI .u32 a b = a * 2 ^ k % 4294967296 := by
  subst hb
  show IntKind.u32.wrap (a * 2 ^ (min (k : Int).toNat 32)) = _
  rw [u32m, Int.toNat_natCast, Nat.min_eq_left hk]
theorem shr_eq (kk : IntKind) (a b : Int) (k : Nat) (hb : b = k) (hk : k ≤ kk.bits) : shrI kk a b = a / 2 ^ k := by
  subst hb
  show a.fdiv (2 ^ (min (k : Int).toNat kk.bits)) = _
  rw [Int.toNat_natCast, Nat.min_eq_left hk, Int.fdiv_eq_ediv_of_nonneg _ (Int.pow_nonneg (by decide))]
end Go.Vm.Rv
