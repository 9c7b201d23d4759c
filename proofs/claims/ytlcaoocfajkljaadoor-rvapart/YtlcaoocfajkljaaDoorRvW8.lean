import Derived.Test.YtlcaoocfajkljaaDoorRvW4
import Derived.Test.YtlcaoocfajkljaaDoorVmPrimStr
import Derived.KernelRfl
import Derived.Lib.ItoaLen
namespace Go.Vm.Rv
set_option maxRecDepth 10000
def namesS : List UInt8 := [108, 117, 105, 32, 97, 117, 105, 112, 99, 32, 106, 97, 108, 32, 106, 97, 108, 114, 32, 98, 101, 113, 32, 98, 110, 101, 32, 98, 108, 116, 32, 98, 103, 101, 32, 98, 108, 116, 117, 32, 98, 103, 101, 117, 32, 108, 98, 32, 108, 104, 32, 108, 119, 32, 108, 100, 32, 108, 98, 117, 32, 108, 104, 117, 32, 108, 119, 117, 32, 115, 98, 32, 115, 104, 32, 115, 119, 32, 115, 100, 32, 97, 100, 100, 105, 32, 115, 108, 116, 105, 32, 115, 108, 116, 105, 117, 32, 120, 111, 114, 105, 32, 111, 114, 105, 32, 97, 110, 100, 105, 32, 115, 108, 108, 105, 32, 115, 114, 108, 105, 32, 115, 114, 97, 105, 32, 97, 100, 100, 105, 119, 32, 115, 108, 108, 105, 119, 32, 115, 114, 108, 105, 119, 32, 115, 114, 97, 105, 119, 32, 97, 100, 100, 32, 115, 117, 98, 32, 115, 108, 108, 32, 115, 108, 116, 32, 115, 108, 116, 117, 32, 120, 111, 114, 32, 115, 114, 108, 32, 115, 114, 97, 32, 111, 114, 32, 97, 110, 100, 32, 97, 100, 100, 119, 32, 115, 117, 98, 119, 32, 115, 108, 108, 119, 32, 115, 114, 108, 119, 32, 115, 114, 97, 119, 32, 109, 117, 108, 32, 109, 117, 108, 104, 32, 109, 117, 108, 104, 115, 117, 32, 109, 117, 108, 104, 117, 32, 100, 105, 118, 32, 100, 105, 118, 117, 32, 114, 101, 109, 32, 114, 101, 109, 117, 32, 109, 117, 108, 119, 32, 100, 105, 118, 119, 32, 100, 105, 118, 117, 119, 32, 114, 101, 109, 119, 32, 114, 101, 109, 117, 119, 32, 102, 101, 110, 99, 101, 32, 101, 99, 97, 108, 108, 32, 101, 98, 114, 101, 97, 107]
def namesL : List (List UInt8) := [[108, 117, 105], [97, 117, 105, 112, 99], [106, 97, 108], [106, 97, 108, 114], [98, 101, 113], [98, 110, 101], [98, 108, 116], [98, 103, 101], [98, 108, 116, 117], [98, 103, 101, 117], [108, 98], [108, 104], [108, 119], [108, 100], [108, 98, 117], [108, 104, 117], [108, 119, 117], [115, 98], [115, 104], [115, 119], [115, 100], [97, 100, 100, 105], [115, 108, 116, 105], [115, 108, 116, 105, 117], [120, 111, 114, 105], [111, 114, 105], [97, 110, 100, 105], [115, 108, 108, 105], [115, 114, 108, 105], [115, 114, 97, 105], [97, 100, 100, 105, 119], [115, 108, 108, 105, 119], [115, 114, 108, 105, 119], [115, 114, 97, 105, 119], [97, 100, 100], [115, 117, 98], [115, 108, 108], [115, 108, 116], [115, 108, 116, 117], [120, 111, 114], [115, 114, 108], [115, 114, 97], [111, 114], [97, 110, 100], [97, 100, 100, 119], [115, 117, 98, 119], [115, 108, 108, 119], [115, 114, 108, 119], [115, 114, 97, 119], [109, 117, 108], [109, 117, 108, 104], [109, 117, 108, 104, 115, 117], [109, 117, 108, 104, 117], [100, 105, 118], [100, 105, 118, 117], [114, 101, 109], [114, 101, 109, 117], [109, 117, 108, 119], [100, 105, 118, 119], [100, 105, 118, 117, 119], [114, 101, 109, 119], [114, 101, 109, 117, 119], [102, 101, 110, 99, 101], [101, 99, 97, 108, 108], [101, 98, 114, 101, 97, 107]]
theorem fields_names : Lib.fields namesS = namesL := by decide +kernel
theorem names_len : namesL.length = 65 := rfl
theorem names_short : ∀ i : Fin 65, (namesL.getD i.1 []).length ≤ 10 := by decide +kernel
section
variable {fx : Nat → Option Obj} {rowsD : List D} {rw_ : Int → Rw} (H : Hp)
theorem tbl39 : tbl 39 = some (.prim primItoa) := rfl
theorem tbl40 : tbl 40 = some (.prim primFmt) := rfl
theorem tbl41 : tbl 41 = some (.prim primJoin) := rfl
theorem tbl43 : tbl 43 = some (.prim primFields) := rfl
theorem fields_ev : evF (pgR fx rowsD) 43 [.d (.str namesS)] H = some (.d (.sl (namesL.map .str)), H) := by
  rw [evF_prim (pg := pgR fx rowsD) (f := 43) (F := primFields) rfl]
  show (if namesS.length < 4294967281 ∧ namesS.all (fun b => decide (b.toNat < 128)) = true then some (V.d (.sl ((Lib.fields namesS).map .str)), H) else none) = _
  rw [if_pos ⟨by decide +kernel, by decide +kernel⟩, fields_names]
def nameL (op : Int) : List UInt8 := if op < 1 ∨ 65 < op then [] else namesL.getD (op - 1).toNat []
theorem name_short (op : Int) : (nameL op).length ≤ 10 := by
  unfold nameL
  split
  · simp
  · exact names_short ⟨(op - 1).toNat, by omega⟩
theorem pickS (l : List (List UInt8)) (n : Int) (h : 0 ≤ n ∧ n < l.length) {k : D → Prop} (hk : k (.str (l.getD n.toNat []))) : ∃ y, (0 ≤ n ∧ (l.map D.str)[n.toNat]? = some y) ∧ y.cells.length = 1 ∧ k y := by
  have : n.toNat < l.length := by omega
  exact ⟨_, ⟨h.1, by simp [List.getD, this]⟩, rfl, hk⟩
theorem name_ev (op : Int) : evF (pgR fx rowsD) 23 [.d (.int .i64 op)] H = some (.d (.str (nameL op)), H) := by
  refine evF_wp tbl23 rfl rfl ?_ H
  refine Exists.intro _ (Exists.intro _ (And.intro (fields_ev _) ?_))
  refine And.intro (fun h => ?_) (fun h => ?_)
  · replace h := of_decide_eq_false h
    refine And.intro (fun h2 => ?_) (fun h2 => ?_)
    · replace h2 := of_decide_eq_true h2
      rw [List.length_map, names_len] at h2
      have h4 : op < 1 ∨ 65 < op := by omega
      show _ = _
      simp only [oneOf, nameL, if_pos h4]
    · replace h2 := of_decide_eq_false h2
      rw [List.length_map, names_len] at h2
      have h3 : ¬(op < 1 ∨ 65 < op) := by omega
      have e : IntKind.i64.wrap (op - 1) = op - 1 := i64w (by omega)
      refine pickS namesL (IntKind.i64.wrap (op - 1)) (by rw [e, names_len]; omega) ?_
      show _ = _
      rw [e]
      simp [oneOf, nameL, h3]
  · refine And.intro (fun h2 => ?_) (fun h2 => ?_)
    · replace h : decide (op < 1) = true := h
      replace h := of_decide_eq_true h
      show _ = _
      simp [oneOf, nameL, h]
    · cases h2
theorem rname_ev (op : Int) : evF (pgR fx rowsD) 24 [.d (.int .i64 op)] H = some (.d (.str (nameL op)), H) := by
  refine evF_wp tbl24 rfl rfl ?_ H
  refine And.intro (fun h => ?_) (fun h => ?_)
  · replace h := of_decide_eq_false h
    refine And.intro (fun h2 => ?_) (fun h2 => ?_)
    · replace h2 := of_decide_eq_true h2
      show _ = _
      simp [oneOf, nameL, h2]
    · replace h2 := of_decide_eq_false h2
      have h3 : ¬(op < 1 ∨ 65 < op) := by omega
      have e : IntKind.i64.wrap (op - 1) = op - 1 := i64w (by omega)
      refine pickS namesL (IntKind.i64.wrap (op - 1)) (by rw [e, names_len]; omega) ?_
      show _ = _
      rw [e]
      simp [oneOf, nameL, h3]
  · refine And.intro (fun h2 => ?_) (fun h2 => ?_)
    · replace h : decide (op < 1) = true := h
      replace h := of_decide_eq_true h
      show _ = _
      simp [oneOf, nameL, h]
    · cases h2
/-- Numbers as texts. -/
def Small (n : Int) : Prop := -9223372036854775808 ≤ n ∧ n ≤ 9223372036854775807 ∧ (Lib.itoa n).length ≤ 1000
theorem small_of {n : Int} (h : -9223372036854775808 ≤ n ∧ n ≤ 9223372036854775807) : Small n := by
  refine ⟨h.1, h.2, ?_⟩
  unfold Lib.itoa
  split
  · have := Lib.nDigits_le20 n.natAbs (by omega)
    simp only [List.length_cons, Lib.decDigits_length]; omega
  · have := Lib.nDigits_le20 n.toNat (by omega)
    simp only [Lib.decDigits_length]; omega
theorem itoa_ev (n : Int) (h : Small n) : evF (pgR fx rowsD) 39 [.d (.int .i64 n)] H = some (.d (.str (Lib.itoa n)), H) := by
  rw [evF_prim (pg := pgR fx rowsD) (f := 39) (F := primItoa) rfl]
  exact if_pos ⟨h.1, h.2.1⟩
theorem fmt_ev (n : Int) (h : Small n) : evF (pgR fx rowsD) 40 [.d (.int .i64 n), .d (.int .i64 10)] H = some (.d (.str (Lib.itoa n)), H) := by
  rw [evF_prim (pg := pgR fx rowsD) (f := 40) (F := primFmt) rfl]
  exact if_pos ⟨⟨h.1, h.2.1⟩, rfl⟩
def xL (n : Int) : List UInt8 := 120 :: Lib.itoa n
theorem xL_len (n : Int) (h : Small n) : (xL n).length ≤ 1001 := by have := h.2.2; simp [xL]; omega
theorem tx_ev (n : Int) (h : Small n) : evF (pgR fx rowsD) 38 [.d (.int .i64 n)] H = some (.d (.str (xL n)), H) := by
  refine evF_wp tbl38 rfl rfl ?_ H
  refine Exists.intro _ (Exists.intro _ (And.intro (itoa_ev _ n h) ?_))
  refine And.intro (by have := h.2.2; simp; omega) ?_
  rfl
theorem rx_ev (n : Int) (h : Small n) : evF (pgR fx rowsD) 42 [.d (.int .i64 n)] H = some (.d (.str (xL n)), H) := by
  refine evF_wp tbl42 rfl rfl ?_ H
  refine Exists.intro _ (Exists.intro _ (And.intro (itoa_ev _ n h) ?_))
  refine And.intro (by have := h.2.2; simp; omega) ?_
  rfl
theorem join2_ev (a b : List UInt8) (h1 : a.length ≤ 5000) (h2 : b.length ≤ 5000) : evF (pgR fx rowsD) 41 [.d (.sl [.str a, .str b]), .d (.str [44])] H = some (.d (.str (a ++ 44 :: b)), H) := by
  rw [evF_prim (pg := pgR fx rowsD) (f := 41) (F := primJoin) rfl]
  have e : Lib.join [a, b] [44] = a ++ 44 :: b := by simp [Lib.join_cons, Lib.joinTail]
  show (if [a, b].length ≤ 140737488355328 ∧ (Lib.join [a, b] [44]).length ≤ 140737488355328 then some (V.d (.str (Lib.join [a, b] [44])), H) else none) = _
  rw [e, if_pos ⟨by simp, by simp; omega⟩]
theorem join3_ev (a b c : List UInt8) (h1 : a.length ≤ 5000) (h2 : b.length ≤ 5000) (h3 : c.length ≤ 5000) : evF (pgR fx rowsD) 41 [.d (.sl [.str a, .str b, .str c]), .d (.str [44])] H = some (.d (.str (a ++ 44 :: (b ++ 44 :: c))), H) := by
  rw [evF_prim (pg := pgR fx rowsD) (f := 41) (F := primJoin) rfl]
  have e : Lib.join [a, b, c] [44] = a ++ 44 :: (b ++ 44 :: c) := by simp [Lib.join_cons, Lib.joinTail]
  show (if [a, b, c].length ≤ 140737488355328 ∧ (Lib.join [a, b, c] [44]).length ≤ 140737488355328 then some (V.d (.str (Lib.join [a, b, c] [44])), H) else none) = _
  rw [e, if_pos ⟨by simp, by simp; omega⟩]
end
end Go.Vm.Rv
