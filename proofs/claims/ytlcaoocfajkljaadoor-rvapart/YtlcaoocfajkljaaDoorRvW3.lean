import Derived.Test.YtlcaoocfajkljaaDoorRvW2
import Derived.Test.YtlcaoocfajkljaaDoorVmNum
namespace Go.Vm.Rv
set_option maxRecDepth 10000
section
variable {fx : Nat → Option Obj} {rowsD : List D} {rw_ : Int → Rw} (H : Hp)
def l66 : List Int := [0, 1, 4, 5, 6, 7]
def l73 : List Int := [0, 2, 3, 4, 6, 7]
def lh : List Int := [1, 5, 5]
def lh7 : List Int := [0, 0, 32]
def lr : List Int := [0, 0, 1, 2, 3, 4, 5, 5, 6, 7]
def lr7 : List Int := [0, 32, 0, 0, 0, 0, 0, 32, 0, 0]
def lw : List Int := [0, 0, 1, 5, 5]
def lw7 : List Int := [0, 32, 0, 0, 32]
def lm : List Int := [0, 4, 5, 6, 7]
def at_ (l : List Int) (n : Int) : Int := l.getD n.toNat 0
/-- The reference's row of an operation. -/
def formL (op : Int) : Rw :=
  if op = 1 then ⟨85, 55, 0, 0⟩ else if op = 2 then ⟨85, 23, 0, 0⟩ else if op = 3 then ⟨74, 111, 0, 0⟩ else if op = 4 then ⟨73, 103, 0, 0⟩
  else if 5 ≤ op ∧ op ≤ 10 then ⟨66, 99, at_ l66 (op - 5), 0⟩
  else if 11 ≤ op ∧ op ≤ 17 then ⟨73, 3, op - 11, 0⟩
  else if 18 ≤ op ∧ op ≤ 21 then ⟨83, 35, op - 18, 0⟩
  else if 22 ≤ op ∧ op ≤ 27 then ⟨73, 19, at_ l73 (op - 22), 0⟩
  else if 28 ≤ op ∧ op ≤ 30 then ⟨72, 19, at_ lh (op - 28), at_ lh7 (op - 28)⟩
  else if op = 31 then ⟨73, 27, 0, 0⟩
  else if 32 ≤ op ∧ op ≤ 34 then ⟨104, 27, at_ lh (op - 32), at_ lh7 (op - 32)⟩
  else if 35 ≤ op ∧ op ≤ 44 then ⟨82, 51, at_ lr (op - 35), at_ lr7 (op - 35)⟩
  else if 45 ≤ op ∧ op ≤ 49 then ⟨82, 59, at_ lw (op - 45), at_ lw7 (op - 45)⟩
  else if 50 ≤ op ∧ op ≤ 57 then ⟨82, 51, op - 50, 1⟩
  else if 58 ≤ op ∧ op ≤ 62 then ⟨82, 59, at_ lm (op - 58), 1⟩
  else if op = 63 then ⟨78, 15, 0, 0⟩ else if op = 64 then ⟨78, 115, 0, 0⟩ else if op = 65 then ⟨78, 1048691, 0, 0⟩
  else zRw
/-- An index into a slice of literals, at a difference. -/
theorem pickW (l : List Int) (op c : Int) (h : 0 ≤ op - c ∧ op - c < l.length) (hs : (-9223372036854775808 ≤ op - c ∧ op - c ≤ 9223372036854775807)) {k : D → Prop} (hk : k (.int .u32 (at_ l (op - c)))) :
    ∃ y, (0 ≤ IntKind.i64.wrap (op - c) ∧ (l.map (D.int .u32))[(IntKind.i64.wrap (op - c)).toNat]? = some y) ∧ y.cells.length = 1 ∧ k y := by
  rw [i64w hs]
  exact ⟨_, pickK .u32 l _ h, rfl, hk⟩
theorem form_ev (op : Int) : evF (pgR fx rowsD) 34 [.d (.int .i64 op)] H = some (.d (formL op).D, H) := by
  refine evF_wp tbl34 rfl rfl ?_ H
  repeat' (refine And.intro (fun h => ?_) (fun h => ?_) <;> first | (exfalso; cases h; done) | (replace h := of_decide_eq_true h; try (exfalso; omega)) | (replace h := of_decide_eq_false h; try (exfalso; omega)) | skip)
  · show _ = _
    simp [oneOf, formL, Rw.D, zRw, *]
  · show _ = _
    simp [oneOf, formL, Rw.D, zRw, *]
  · show _ = _
    simp [oneOf, formL, Rw.D, zRw, *]
  · show _ = _
    simp [oneOf, formL, Rw.D, zRw, *]
  · refine pickW l66 op 5 (by simp [l66]; omega) (by omega) ?_
    show _ = _
    simp [oneOf, formL, Rw.D, *]
  · show _ = _
    rw [i64w (by omega), u32w (by omega)]
    simp [oneOf, formL, Rw.D, *]
  · show _ = _
    rw [i64w (by omega), u32w (by omega)]
    simp [oneOf, formL, Rw.D, *]
  · refine pickW l73 op 22 (by simp [l73]; omega) (by omega) ?_
    show _ = _
    simp [oneOf, formL, Rw.D, *]
  · refine pickW lh op 28 (by simp [lh]; omega) (by omega) ?_
    refine pickW lh7 op 28 (by simp [lh7]; omega) (by omega) ?_
    show _ = _
    simp [oneOf, formL, Rw.D, *]
  · show _ = _
    simp [oneOf, formL, Rw.D, zRw, *]
  · refine pickW lh op 32 (by simp [lh]; omega) (by omega) ?_
    refine pickW lh7 op 32 (by simp [lh7]; omega) (by omega) ?_
    show _ = _
    simp [oneOf, formL, Rw.D, *]
  · refine pickW lr op 35 (by simp [lr]; omega) (by omega) ?_
    refine pickW lr7 op 35 (by simp [lr7]; omega) (by omega) ?_
    show _ = _
    simp [oneOf, formL, Rw.D, *]
  · refine pickW lw op 45 (by simp [lw]; omega) (by omega) ?_
    refine pickW lw7 op 45 (by simp [lw7]; omega) (by omega) ?_
    show _ = _
    simp [oneOf, formL, Rw.D, *]
  · show _ = _
    rw [i64w (by omega), u32w (by omega)]
    simp [oneOf, formL, Rw.D, *]
  · refine pickW lm op 58 (by simp [lm]; omega) (by omega) ?_
    show _ = _
    simp [oneOf, formL, Rw.D, *]
  · show _ = _
    simp [oneOf, formL, Rw.D, zRw, *]
  · show _ = _
    simp [oneOf, formL, Rw.D, zRw, *]
  · show _ = _
    simp [oneOf, formL, Rw.D, zRw, *]
  · show _ = _
    simp [oneOf, formL, Rw.D, zRw, *]
  · show _ = _
    simp [oneOf, formL, Rw.D, zRw, *]
end
end Go.Vm.Rv
