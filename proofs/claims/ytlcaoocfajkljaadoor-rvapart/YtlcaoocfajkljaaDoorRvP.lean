import Derived.Test.YtlcaoocfajkljaaDoorRvN2
/- The rows, and what holds of each of them. -/
namespace Go.Vm.Rv
set_option maxRecDepth 100000
def rowTbl : List Rw := [⟨0, 0, 0, 0⟩,
  ⟨85, 55, 0, 0⟩,
  ⟨85, 23, 0, 0⟩,
  ⟨74, 111, 0, 0⟩,
  ⟨73, 103, 0, 0⟩,
  ⟨66, 99, 0, 0⟩,
  ⟨66, 99, 1, 0⟩,
  ⟨66, 99, 4, 0⟩,
  ⟨66, 99, 5, 0⟩,
  ⟨66, 99, 6, 0⟩,
  ⟨66, 99, 7, 0⟩,
  ⟨73, 3, 0, 0⟩,
  ⟨73, 3, 1, 0⟩,
  ⟨73, 3, 2, 0⟩,
  ⟨73, 3, 3, 0⟩,
  ⟨73, 3, 4, 0⟩,
  ⟨73, 3, 5, 0⟩,
  ⟨73, 3, 6, 0⟩,
  ⟨83, 35, 0, 0⟩,
  ⟨83, 35, 1, 0⟩,
  ⟨83, 35, 2, 0⟩,
  ⟨83, 35, 3, 0⟩,
  ⟨73, 19, 0, 0⟩,
  ⟨73, 19, 2, 0⟩,
  ⟨73, 19, 3, 0⟩,
  ⟨73, 19, 4, 0⟩,
  ⟨73, 19, 6, 0⟩,
  ⟨73, 19, 7, 0⟩,
  ⟨72, 19, 1, 0⟩,
  ⟨72, 19, 5, 0⟩,
  ⟨72, 19, 5, 32⟩,
  ⟨73, 27, 0, 0⟩,
  ⟨72, 27, 1, 0⟩,
  ⟨72, 27, 5, 0⟩,
  ⟨72, 27, 5, 32⟩,
  ⟨82, 51, 0, 0⟩,
  ⟨82, 51, 0, 32⟩,
  ⟨82, 51, 1, 0⟩,
  ⟨82, 51, 2, 0⟩,
  ⟨82, 51, 3, 0⟩,
  ⟨82, 51, 4, 0⟩,
  ⟨82, 51, 5, 0⟩,
  ⟨82, 51, 5, 32⟩,
  ⟨82, 51, 6, 0⟩,
  ⟨82, 51, 7, 0⟩,
  ⟨82, 59, 0, 0⟩,
  ⟨82, 59, 0, 32⟩,
  ⟨82, 59, 1, 0⟩,
  ⟨82, 59, 5, 0⟩,
  ⟨82, 59, 5, 32⟩,
  ⟨82, 51, 0, 1⟩,
  ⟨82, 51, 1, 1⟩,
  ⟨82, 51, 2, 1⟩,
  ⟨82, 51, 3, 1⟩,
  ⟨82, 51, 4, 1⟩,
  ⟨82, 51, 5, 1⟩,
  ⟨82, 51, 6, 1⟩,
  ⟨82, 51, 7, 1⟩,
  ⟨82, 59, 0, 1⟩,
  ⟨82, 59, 4, 1⟩,
  ⟨82, 59, 5, 1⟩,
  ⟨82, 59, 6, 1⟩,
  ⟨82, 59, 7, 1⟩,
  ⟨78, 15, 0, 0⟩,
  ⟨78, 115, 0, 0⟩,
  ⟨78, 1048691, 0, 0⟩]
def rwC (op : Int) : Rw := rowTbl.getD op.toNat zRw
def rowsOf (l : List Rw) : List D := l.flatMap fun r => [.int .u8 r.f, .int .u32 r.c, .int .u32 r.f3, .int .u32 r.f7]
theorem rowsOf_get : ∀ (l : List Rw) (n : Nat), n < l.length → ((rowsOf l).drop (n * 4)).take 4 = [.int .u8 (l.getD n zRw).f, .int .u32 (l.getD n zRw).c, .int .u32 (l.getD n zRw).f3, .int .u32 (l.getD n zRw).f7]
  | [], n, h => by simp at h
  | r :: l, 0, _ => by simp [rowsOf]
  | r :: l, n + 1, h => by
    have := rowsOf_get l n (by simpa using h)
    rw [show (n + 1) * 4 = n * 4 + 4 by omega]
    simpa [rowsOf] using this
def rowsC : List D := rowsOf rowTbl
theorem rowsOk : RowsOk rowsC rwC where
  len := rfl
  get := fun op h1 h2 => rowsOf_get rowTbl op.toNat (by show op.toNat < 66; omega)
theorem all_ops {p : Int → Prop} (h : ∀ n : Fin 65, p ((n.1 : Int) + 1)) (op : Int) (h1 : 1 ≤ op) (h2 : op ≤ 65) : p op := by
  have := h ⟨(op - 1).toNat, by omega⟩
  rw [show ((((op - 1).toNat : Nat) : Int)) + 1 = op by omega] at this
  exact this
/-- A row and the reference's form. -/
def sameB (op : Int) : Bool := (decide ((rwC op).f = (formL op).f ∧ ((rwC op).f = 72 → op < 32) ∧ (rwC op).f ≠ 104) || decide ((rwC op).f = 72 ∧ (formL op).f = 104 ∧ 32 ≤ op)) && decide ((rwC op).c = (formL op).c ∧ (rwC op).f3 = (formL op).f3 ∧ (rwC op).f7 = (formL op).f7)
theorem same_all (op : Int) (h1 : 1 ≤ op) (h2 : op ≤ 65) : sameB op = true := all_ops (p := fun op => sameB op = true) (by decide +kernel) op h1 h2
theorem same (op : Int) (h1 : 1 ≤ op) (h2 : op ≤ 65) : ((rwC op).f = (formL op).f ∧ ((rwC op).f = 72 → op < 32) ∧ (rwC op).f ≠ 104 ∨ (rwC op).f = 72 ∧ (formL op).f = 104 ∧ 32 ≤ op) ∧ (rwC op).c = (formL op).c ∧ (rwC op).f3 = (formL op).f3 ∧ (rwC op).f7 = (formL op).f7 := by
  have := same_all op h1 h2
  simp only [sameB, Bool.and_eq_true, Bool.or_eq_true, decide_eq_true_eq] at this
  exact this
/-- What a row's numbers are. -/
def rangeB (r : Rw) : Bool := decide (0 ≤ r.f3 ∧ r.f3 < 8) && (
  (decide (r.f = 82) && decide (0 ≤ r.c ∧ r.c < 128 ∧ 0 ≤ r.f7 ∧ r.f7 < 128)) ||
  (decide (r.f = 72) && decide (0 ≤ r.c ∧ r.c < 128 ∧ (r.f7 = 0 ∨ r.f7 = 32))) ||
  ((decide (r.f = 73) || decide (r.f = 83) || decide (r.f = 66)) && decide (0 ≤ r.c ∧ r.c < 128)) ||
  ((decide (r.f = 85) || decide (r.f = 74)) && decide (0 ≤ r.c ∧ r.c < 128 ∧ r.f3 = 0)) ||
  (decide (r.f = 78) && decide (0 ≤ r.c ∧ r.c < 4294967296 ∧ r.f3 = 0)))
theorem range_all (op : Int) (h1 : 1 ≤ op) (h2 : op ≤ 65) : rangeB (rwC op) = true := all_ops (p := fun op => rangeB (rwC op) = true) (by decide +kernel) op h1 h2
theorem range (op : Int) (h1 : 1 ≤ op) (h2 : op ≤ 65) : (0 ≤ (rwC op).f3 ∧ (rwC op).f3 < 8) ∧ (
    (((((rwC op).f = 82 ∧ 0 ≤ (rwC op).c ∧ (rwC op).c < 128 ∧ 0 ≤ (rwC op).f7 ∧ (rwC op).f7 < 128) ∨
    ((rwC op).f = 72 ∧ 0 ≤ (rwC op).c ∧ (rwC op).c < 128 ∧ ((rwC op).f7 = 0 ∨ (rwC op).f7 = 32))) ∨
    (((rwC op).f = 73 ∨ (rwC op).f = 83) ∨ (rwC op).f = 66) ∧ 0 ≤ (rwC op).c ∧ (rwC op).c < 128) ∨
    ((rwC op).f = 85 ∨ (rwC op).f = 74) ∧ 0 ≤ (rwC op).c ∧ (rwC op).c < 128 ∧ (rwC op).f3 = 0) ∨
    (rwC op).f = 78 ∧ 0 ≤ (rwC op).c ∧ (rwC op).c < 4294967296 ∧ (rwC op).f3 = 0) := by
  have := range_all op h1 h2
  simp only [rangeB, Bool.and_eq_true, Bool.or_eq_true, decide_eq_true_eq] at this
  exact this
theorem form_out (op : Int) (h : op < 1 ∨ 65 < op) : formL op = zRw := by
  unfold formL
  repeat rw [if_neg (by omega)]
/-- Checks agree. -/
theorem chk_right (op rd rs1 rs2 n : Int) : chkL rwC op rd rs1 rs2 n = rightL op rd rs1 rs2 n := by
  by_cases h : op < 1 ∨ 65 < op
  · simp [chkL, ofL, h, rightL, form_out op h, zRw]
  · have h1 : 1 ≤ op := by omega
    have h2 : op ≤ 65 := by omega
    have hs := same op h1 h2
    have hr := range op h1 h2
    unfold chkL rightL ofL
    rw [if_neg h]
    simp only [Bool.true_and]
    rw [Bool.eq_iff_iff]
    simp only [regL, rregL, rdL, rs1L, rs2L, hasD, hasA, hasB, numL, rimmL]
    obtain ⟨hs, _⟩ := hs
    generalize (rwC op).f = f at *
    generalize (formL op).f = g at *
    rcases hs with ⟨rfl, hs1, hs2⟩ | ⟨rfl, rfl, hs⟩
    · have hf : f = 82 ∨ f = 72 ∨ f = 73 ∨ f = 83 ∨ f = 66 ∨ f = 85 ∨ f = 74 ∨ f = 78 := by omega
      rcases hf with rfl | rfl | rfl | rfl | rfl | rfl | rfl | rfl
      all_goals simp at hs1 ⊢
      all_goals omega
    · simp
      omega
end Go.Vm.Rv
