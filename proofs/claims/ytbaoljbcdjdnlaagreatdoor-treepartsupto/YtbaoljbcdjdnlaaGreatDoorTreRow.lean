import Derived.Test.YtbaoljbcdjdnlaaGreatDoorTreTbl
import Derived.Test.YtbaoljbcdjdnlaaGreatDoorTreShelf
import Derived.Test.YtbaoljbcdjdnlaaGreatDoorTreP11
import Derived.Test.YtbaoljbcdjdnlaaGreatDoorTreW
import Derived.Test.YtbaoljbcdjdnlaaGreatDoorVmTab
import Derived.LaidLaws
import Derived.Test.YtbaoljbcdjdnlaaGreatDoorCards
import Derived.Test.YtbaoljbcdjdnlaaGreatDoorTie
import Derived.WalkKit
import Derived.ProofKit
import Derived.OpenShut
import Derived.Deep.DeepHandedRow
import Derived.Lib.LaidTab
import Derived.SevenTiedAt
import Derived.Lay
set_option linter.unusedSimpArgs false
set_option linter.unusedVariables false
namespace Go.Proofs.YtbaoljbcdjdnlaaGreatDoor
open Go Go.Vm Go.ChangeShapes Go.WideShapes Go.ChangeAt Go.RowKit Go.Vm.Tp
set_option maxRecDepth 100000
theorem own : ownKnob Tryz.prog.godebug = none := by kernel_rfl
theorem laidOut : laidOutB Tryz.prog = true := by kernel_rfl
theorem mixed : Tryz.prog.follows .mixedOrders = true := by kernel_rfl
theorem gPow : Tryz.prog.globalNamed "internal/strconv.uint64pow10" = some 1 := by kernel_rfl
theorem tPow : (Tryz.prog.globals[1]?).map (·.type) = some 125 := by kernel_rfl
theorem plainPow : plainT Tryz.prog 8 125 = true := by kernel_rfl
theorem pow_eq : (dwD (Rows.laid_internal_strconv_uint64pow10 (H := Unit))).cells = Lib.pow10Tab.map (D.int .u64) := by kernel_rfl
def laid3 : List (String × DataW Unit) := [("math/bits.deBruijn32tab", Rows.laid_math_bits_deBruijn32tab), ("math/bits.deBruijn64tab", Rows.laid_math_bits_deBruijn64tab), ("internal/strconv.uint64pow10", Rows.laid_internal_strconv_uint64pow10)]
def pgW (W : World) : Pg := ⟨⟨gvOf [], fixOf W [0, 1]⟩, Go.Vm.Tre.tbl⟩
theorem pg_eq (W : World) : pgW W = Go.Vm.Tre.pgL (fixOf W [0, 1]) := rfl
theorem code (f : Nat) {fn : Func} (h : Tryz.prog.funcs[f]? = some fn) (h1 : fn.body.isNone = false) (h2 : (fn.name == "runtime.NumGoroutine") = false) : IsCode Tryz.prog f := ⟨fn, h, h1, h2⟩
theorem max_cell {W : World} (h : W.ShapedOpen Tryz.prog) {g : Gh} {H : Hp} {w : World} (hI : Inv (pgW W).toCx g H w) : ∃ m : Int, w.cell? ⟨0, 0, none⟩ = some (.int .i64 m) := by
  obtain ⟨m, hm⟩ := Tryz.laysM145.s1_3 W h
  have hm : W.cell? ⟨0, 0, none⟩ = some (.int .i64 m) := hm
  obtain ⟨o, ho⟩ : ∃ o, W.heap[0]? = some o := by
    cases hb : W.heap[0]? with
    | none => unfold World.cell? at hm; simp [hb] at hm
    | some o => exact ⟨o, rfl⟩
  have k := (hI.fix 0 o (by show fixOf W [0, 1] 0 = _; unfold fixOf; rw [if_pos (by decide)]; exact ho)).1
  exact ⟨m, by rw [World.cell?_of_block (w := W) (a := ⟨0, 0, none⟩) (k.trans ho.symm)]; exact hm⟩
theorem tOk {W : World} (h : laidMetH Tryz.prog laid3 W) (hs : W.ShapedOpen Tryz.prog) : TblOk Tryz.prog (pgW W) := by
  have h := laidMetH_flat (by kernel_rfl) h
  have t1 : TabAt Tryz.prog (pgW W).toCx "internal/strconv.uint64pow10" .u64 Lib.pow10Tab := tab_at rfl (by decide) gPow (laid_tab h (by simp [laid3]) gPow tPow plainPow pow_eq)
  exact Go.Vm.Tre.tblOk _
    (join_spec (code 22 Tryz.func22 (by kernel_rfl) (by kernel_rfl)) (fun a c sep w => Tryz.strings_Join_none _ _ _ _) fun bk o c xs sep w a1 a2 a3 a4 a5 => Tryz.strings_Join bk o c xs sep w a1 a2 a3 a4 a5)
    (fmt_spec (code 69 Tryz.func69 (by kernel_rfl) (by kernel_rfl)) t1 fun n a b w hw => Tryz.strconv_FormatInt_10 n a b w hw)
    (cut_spec (code 84 Tryz.func84 (by kernel_rfl) (by kernel_rfl)) (fun g H w hI => max_cell hs hI) fun s p w h1 hm => by obtain ⟨m, hm⟩ := hm; exact Tryz.strings_Cut s p m w h1 hm)
    (indexByte_spec (code 87 Tryz.func87 (by kernel_rfl) (by kernel_rfl)) Tryz.strings_IndexByte)
theorem globOk {W : World} : GlobOk (pgW W).toCx W := globOk_of _ (fixOf_ok W _) fun p hp => by cases hp
theorem flat_met {laid : List (String × DataW Unit)} {w : World} (h : (laid.filter fun x => x.2.handleName?.isSome) = []) (hm : laidMet Tryz.prog laid w) : laidMetH Tryz.prog laid w := by
  unfold laidMetH
  rw [h]
  exact hm
theorem door_met (os : Os) (args : Array Value) : laidMetH Tryz.prog laid3 ((World.laidAll Tryz.prog os laid3).forCall (fun _ _ => 0) ⟨#[], args, []⟩).memory :=
  flat_met (by kernel_rfl) (laidMet_laidAll _ (by kernel_rfl) (by kernel_rfl))
theorem under3 : Tryz.prog.underlying 3 = some (.int .i64) := by kernel_rfl
theorem fieldsT : fieldsOf Tryz.prog 24 = some [22] := by kernel_rfl
theorem underS : Tryz.prog.underlying 22 = some (.slice 62) := by kernel_rfl
theorem fieldsN : (fieldsOf Tryz.prog 62).map (·.map Tryz.prog.underlying) = some [some (.int .i64), some .string, some (.int .i64), some (.slice 3), some (.int .i64), some (.int .i64)] := by kernel_rfl
theorem tree_arg {d : D} (h : HasT Tryz.prog 8 24 d) : ∃ t : List Nd, d = treeD t ∧ t.length ≤ 9223372036854775807 ∧ ∀ x ∈ t, WN x := tree_of (m := 3) fieldsT underS fieldsN under3 h
mutual
theorem dw_bulk {H : Type} : ∀ d : DataW H, bulkD (dwD d) ≤ Rows.uptoBulk d
  | .lit (.bool _) => by simp [dwD, bulkD, Rows.uptoBulk]
  | .lit (.int _ _) => by simp [dwD, bulkD, Rows.uptoBulk]
  | .lit (.string _) => by simp [dwD, bulkD, Rows.uptoBulk]
  | .lit (.float _ _) => by simp [dwD, bulkD, bulkDs, Rows.uptoBulk]
  | .lit .nil => by simp [dwD, bulkD, bulkDs, Rows.uptoBulk]
  | .agg l => by have := dws_bulk l; simp only [dwD, bulkD, Rows.uptoBulk]; omega
  | .slice l s => by have := dwl_bulk l; simp only [dwD, bulkD, Rows.uptoBulk]; omega
  | .nil => by simp [dwD, bulkD, bulkDs, Rows.uptoBulk]
  | .ptr _ => by simp [dwD, bulkD, bulkDs, Rows.uptoBulk]
  | .iface _ _ => by simp [dwD, bulkD, bulkDs, Rows.uptoBulk]
  | .map _ => by simp [dwD, bulkD, bulkDs, Rows.uptoBulk]
  | .held _ => by simp [dwD, bulkD, bulkDs, Rows.uptoBulk]
theorem dws_bulk {H : Type} : ∀ l : List (DataW H), bulkDs (dwCells l) ≤ Rows.uptoBulkAll l
  | [] => by simp [dwCells, bulkDs, Rows.uptoBulkAll]
  | x :: r => by
    have h1 := dw_bulk x
    have h2 := dws_bulk r
    have h3 := bulkDs_cells (dwD x)
    simp only [dwCells, Rows.uptoBulkAll, bulkDs_append]; omega
theorem dwl_bulk {H : Type} : ∀ l : List (DataW H), bulkDs (dwL l) ≤ Rows.uptoBulkAll l
  | [] => by simp [dwL, bulkDs, Rows.uptoBulkAll]
  | x :: r => by
    have h1 := dw_bulk x
    have h2 := dwl_bulk r
    simp only [dwL, Rows.uptoBulkAll, bulkDs]; omega
end
theorem bulk_bound {H : Type} {l : List (DataW H)} (hk : Rows.uptoSmall H l = true) : Rows.uptoBulkAll l ≤ 1048576 := of_decide_eq_true hk
theorem bulk_at {H : Type} {l : List (DataW H)} {d : DataW H} (hk : Rows.uptoSmall H l = true) (hd : d ∈ l) : bulkD (dwD d) ≤ 1048576 := by
  have h1 := bulk_bound hk
  have h2 := dw_bulk d
  have h3 : ∀ l : List (DataW H), d ∈ l → Rows.uptoBulk d ≤ Rows.uptoBulkAll l := by
    intro l
    induction l with
    | nil => intro h; cases h
    | cons x r ih =>
      intro h
      simp only [Rows.uptoBulkAll]
      rcases List.mem_cons.1 h with rfl | h
      · omega
      · have := ih h; omega
  have := h3 l hd
  omega
end Go.Proofs.YtbaoljbcdjdnlaaGreatDoor
