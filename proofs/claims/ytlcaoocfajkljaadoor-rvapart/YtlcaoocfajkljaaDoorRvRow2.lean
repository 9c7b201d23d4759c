import Derived.Test.YtlcaoocfajkljaaDoorRvTbl
import Derived.Test.YtlcaoocfajkljaaDoorRvShelf
import Derived.Test.YtlcaoocfajkljaaDoorRvW13
import Derived.Test.YtlcaoocfajkljaaDoorVmTab
import Derived.Test.YtlcaoocfajkljaaDoorCards
import Derived.Test.YtlcaoocfajkljaaDoorTie
import Derived.SevenTiedAt
import Derived.Lay
namespace Go.Proofs.YtlcaoocfajkljaaDoor
open Go Go.Vm Go.ChangeShapes Go.WideShapes Go.ChangeAt Go.RowKit
set_option maxRecDepth 100000
theorem own : ownKnob Tryd.prog.godebug = none := by kernel_rfl
theorem laidOut : laidOutB Tryd.prog = true := by kernel_rfl
theorem mixed : Tryd.prog.follows .mixedOrders = true := by kernel_rfl
theorem gRows : Tryd.prog.globalNamed "patina/rv.rows" = some 0 := by kernel_rfl
theorem tRows : (Tryd.prog.globals[0]?).map (·.type) = some 68 := by kernel_rfl
theorem plain68 : plainT Tryd.prog 8 68 = true := by kernel_rfl
theorem gPow : Tryd.prog.globalNamed "internal/strconv.uint64pow10" = some 3 := by kernel_rfl
theorem tPow : (Tryd.prog.globals[3]?).map (·.type) = some 113 := by kernel_rfl
theorem plain113 : plainT Tryd.prog 8 113 = true := by kernel_rfl
theorem gSp : Tryd.prog.globalNamed "strings.asciiSpace" = some 1 := by kernel_rfl
theorem tSp : (Tryd.prog.globals[1]?).map (·.type) = some 96 := by kernel_rfl
theorem plain96 : plainT Tryd.prog 8 96 = true := by kernel_rfl
def rowsD : List D := (dwD (Rows.laid_patina_rv_rows (H := Unit))).cells
theorem rowsD_eq : rowsD = Go.Vm.Rv.rowsC := by kernel_rfl
theorem pow_eq : (dwD (Rows.laid_internal_strconv_uint64pow10 (H := Unit))).cells = Lib.pow10Tab.map (D.int .u64) := by kernel_rfl
theorem sp_eq : (dwD (Rows.laid_strings_asciiSpace (H := Unit))).cells = Lib.asciiSpaceTab.map (D.int .u8) := by kernel_rfl
def laid6 {H : Type} : List (String × DataW H) := [("math/bits.deBruijn32tab", Rows.laid_math_bits_deBruijn32tab), ("math/bits.deBruijn64tab", Rows.laid_math_bits_deBruijn64tab), ("internal/strconv.uint64pow10", Rows.laid_internal_strconv_uint64pow10), ("unicode.White_Space", Rows.laid_unicode_White_Space), ("strings.asciiSpace", Rows.laid_strings_asciiSpace), ("patina/rv.rows", Rows.laid_patina_rv_rows)]
def pgW (W : World) : Pg := ⟨⟨gvOf [(0, rowsD)], fixOf W [1, 3]⟩, Go.Vm.Rv.tbl⟩
theorem pg_eq (W : World) : pgW W = Go.Vm.Rv.pgR (fixOf W [1, 3]) Go.Vm.Rv.rowsC := by
  have : gvOf [(0, rowsD)] = fun i => if i = 0 then Go.Vm.Rv.rowsC else [] := by
    funext i
    cases i with
    | zero => exact rowsD_eq
    | succ i => rfl
  unfold pgW Go.Vm.Rv.pgR
  rw [this]
theorem code39 : IsCode Tryd.prog 39 := ⟨_, Tryd.func39, by kernel_rfl, by kernel_rfl⟩
theorem code40 : IsCode Tryd.prog 40 := ⟨_, Tryd.func40, by kernel_rfl, by kernel_rfl⟩
theorem code41 : IsCode Tryd.prog 41 := ⟨_, Tryd.func41, by kernel_rfl, by kernel_rfl⟩
theorem code43 : IsCode Tryd.prog 43 := ⟨_, Tryd.func43, by kernel_rfl, by kernel_rfl⟩
theorem tOk {W : World} (h : laidMetH Tryd.prog laid6 W) : TblOk Tryd.prog (pgW W) := by
  have h := laidMetH_flat (by kernel_rfl) h
  have t1 : TabAt Tryd.prog (pgW W).toCx "internal/strconv.uint64pow10" .u64 Lib.pow10Tab := tab_at rfl (by decide) gPow (laid_tab h (List.mem_cons_of_mem _ (List.mem_cons_of_mem _ (List.mem_cons_self ..))) gPow tPow plain113 pow_eq)
  have t2 : TabAt Tryd.prog (pgW W).toCx "strings.asciiSpace" .u8 Lib.asciiSpaceTab := tab_at rfl (by decide) gSp (laid_tab h (List.mem_cons_of_mem _ (List.mem_cons_of_mem _ (List.mem_cons_of_mem _ (List.mem_cons_of_mem _ (List.mem_cons_self ..))))) gSp tSp plain96 sp_eq)
  refine Go.Vm.Rv.tblOk _ (itoa_spec code39 t1 fun n a b w hw => Tryd.strconv_Itoa n a b w hw) (fmt_spec code40 t1 fun n a b w hw => Tryd.strconv_FormatInt_10 n a b w hw) (join_spec code41 (fun a c sep w => ?_) fun bk o c xs sep w a1 a2 a3 a4 a5 => Tryd.strings_Join bk o c xs sep w a1 a2 a3 a4 a5) (fields_spec code43 t2 fun s w a b hw => Tryd.strings_Fields s w a b hw)
  exact Tryd.strings_Join_none _ _ _ _
theorem globOk {W : World} (h : laidMetH Tryd.prog laid6 W) : GlobOk (pgW W).toCx W := by
  have h := laidMetH_flat (by kernel_rfl) h
  exact globOk_of _ (fixOf_ok W [1, 3]) fun p hp => by
    rw [List.mem_singleton] at hp
    subst hp
    exact laid_one h (List.mem_cons_of_mem _ (List.mem_cons_of_mem _ (List.mem_cons_of_mem _ (List.mem_cons_of_mem _ (List.mem_cons_of_mem _ (List.mem_cons_self ..)))))) gRows tRows plain68
theorem flat_met {laid : List (String × DataW Unit)} {w : World} (h : (laid.filter fun x => x.2.handleName?.isSome) = []) (hm : laidMet Tryd.prog laid w) : laidMetH Tryd.prog laid w := by
  unfold laidMetH
  rw [h]
  exact hm
theorem door_met (os : Os) (args : Array Value) : laidMetH Tryd.prog laid6 ((World.laidAll Tryd.prog os laid6).forCall (fun _ _ => 0) ⟨#[], args, []⟩).memory :=
  flat_met (by kernel_rfl) (laidMet_laidAll _ (by kernel_rfl) (by kernel_rfl))
theorem fields23 : (fieldsOf Tryd.prog 23).map (·.map Tryd.prog.underlying) = some [some (.int .i64), some (.int .i64), some (.int .i64), some (.int .i64), some (.int .i64)] := by kernel_rfl
theorem under3 : Tryd.prog.underlying 3 = some (.int .i64) := by kernel_rfl
theorem i64_of {n : Int} (h : (Lit.int .i64 n).wf = true) : -9223372036854775808 ≤ n ∧ n ≤ 9223372036854775807 := by
  have e1 : IntKind.i64.min = -9223372036854775808 := rfl
  have e2 : IntKind.i64.max = 9223372036854775807 := rfl
  simp only [Lit.wf, e1, e2] at h
  simp at h
  omega
theorem hasT_ins {x : D} (h : HasT Tryd.prog 8 23 x) : ∃ op rd r1 r2 n, x = Go.Vm.Rv.insD op rd r1 r2 n ∧ (Go.Vm.Rv.Small rd ∧ Go.Vm.Rv.Small r1 ∧ Go.Vm.Rv.Small r2 ∧ Go.Vm.Rv.Small n) := by
  have hf := fields23
  cases hfo : fieldsOf Tryd.prog 23 with
  | none => rw [hfo] at hf; cases hf
  | some ts =>
    rw [hfo] at hf
    simp only [Option.map_some, Option.some.injEq] at hf
    obtain ⟨xs, hx, ha⟩ := hasT_struct hfo h
    match ts, hf with
    | [a, b, c, d, e], hf =>
      simp only [List.map_cons, List.map_nil, List.cons.injEq, and_true] at hf
      match xs, ha with
      | [x1, x2, x3, x4, x5], ha =>
        obtain ⟨h1, h2, h3, h4, h5, _⟩ := ha
        obtain ⟨n1, rfl, w1⟩ := hasT_int hf.1 h1
        obtain ⟨n2, rfl, w2⟩ := hasT_int hf.2.1 h2
        obtain ⟨n3, rfl, w3⟩ := hasT_int hf.2.2.1 h3
        obtain ⟨n4, rfl, w4⟩ := hasT_int hf.2.2.2.1 h4
        obtain ⟨n5, rfl, w5⟩ := hasT_int hf.2.2.2.2 h5
        exact ⟨n1, n2, n3, n4, n5, hx, Go.Vm.Rv.small_of (i64_of w2), Go.Vm.Rv.small_of (i64_of w3), Go.Vm.Rv.small_of (i64_of w4), Go.Vm.Rv.small_of (i64_of w5)⟩
end Go.Proofs.YtlcaoocfajkljaaDoor
