import Derived.Test.YtlcaoocfajkljaaDoorRvTbl
import Derived.Test.YtlcaoocfajkljaaDoorRvW6
import Derived.Test.YtlcaoocfajkljaaDoorVmArg
import Derived.Test.YtlcaoocfajkljaaDoorCards
import Derived.Test.YtlcaoocfajkljaaDoorTie
import Derived.SevenTiedAt
namespace Go.Proofs.YtlcaoocfajkljaaDoor
open Go Go.Vm Go.ChangeShapes Go.WideShapes Go.ChangeAt Go.RowKit
set_option maxRecDepth 100000
theorem own : ownKnob Tryd.prog.godebug = none := by kernel_rfl
theorem laidOut : laidOutB Tryd.prog = true := by kernel_rfl
theorem mixed : Tryd.prog.follows .mixedOrders = true := by kernel_rfl
theorem gRows : Tryd.prog.globalNamed "patina/rv.rows" = some 0 := by kernel_rfl
theorem tRows : (Tryd.prog.globals[0]?).map (·.type) = some 68 := by kernel_rfl
theorem plain68 : plainT Tryd.prog 8 68 = true := by kernel_rfl
def rowsD : List D := (dwD (Rows.laid_patina_rv_rows (H := Unit))).cells
theorem rowsD_eq : rowsD = Go.Vm.Rv.rowsC := by kernel_rfl
def pg : Pg := ⟨⟨gvOf [(0, rowsD)]⟩, Go.Vm.Rv.tbl⟩
theorem pg_eq : pg = Go.Vm.Rv.pgR Go.Vm.Rv.rowsC := by
  have : gvOf [(0, rowsD)] = fun i => if i = 0 then Go.Vm.Rv.rowsC else [] := by
    funext i
    cases i with
    | zero => exact rowsD_eq
    | succ i => rfl
  unfold pg Go.Vm.Rv.pgR
  rw [this]
theorem tOk : TblOk Tryd.prog pg := Go.Vm.Rv.tblOk _
theorem globOk {W : World} (h : laidMetH Tryd.prog [("patina/rv.rows", Rows.laid_patina_rv_rows)] W) : GlobOk pg.toCx W := by
  have h := laidMetH_flat (by kernel_rfl) h
  exact globOk_of _ fun p hp => by
    rw [List.mem_singleton] at hp
    subst hp
    exact laid_one h (List.mem_singleton.2 rfl) gRows tRows plain68
theorem door_met (os : Os) (args : Array Value) : laidMetH Tryd.prog [("patina/rv.rows", Rows.laid_patina_rv_rows)] ((World.doorLaid Tryd.prog 118 os).forCall (fun _ _ => 0) ⟨#[], args, []⟩).memory :=
  laidMetH_of_parts3 (fuel := 8) (laidMet_of_run' 8 (by kernel_rfl) (by kernel_rfl)) (by kernel_rfl) (by kernel_rfl)
theorem fields23 : (fieldsOf Tryd.prog 23).map (·.map Tryd.prog.underlying) = some [some (.int .i64), some (.int .i64), some (.int .i64), some (.int .i64), some (.int .i64)] := by kernel_rfl
theorem under24 : Tryd.prog.underlying 24 = some (.int .u32) := by kernel_rfl
theorem hasT_ins {x : D} (h : HasT Tryd.prog 8 23 x) : ∃ op rd r1 r2 n, x = Go.Vm.Rv.insD op rd r1 r2 n := by
  have hf := fields23
  cases hfo : fieldsOf Tryd.prog 23 with
  | none => rw [hfo] at hf; cases hf
  | some ts =>
    rw [hfo] at hf
    simp only [Option.map_some, Option.some.injEq] at hf
    obtain ⟨xs, hx, ha⟩ := hasT_struct hfo h
    match ts, hf with
    | [a, b, c, d, e], hf =>
      simp only [List.map_cons, List.map_nil, List.cons.injEq, and_true] at hf
      match xs, ha with
      | [x1, x2, x3, x4, x5], ha =>
        obtain ⟨h1, h2, h3, h4, h5, _⟩ := ha
        obtain ⟨n1, rfl, _⟩ := hasT_int hf.1 h1
        obtain ⟨n2, rfl, _⟩ := hasT_int hf.2.1 h2
        obtain ⟨n3, rfl, _⟩ := hasT_int hf.2.2.1 h3
        obtain ⟨n4, rfl, _⟩ := hasT_int hf.2.2.2.1 h4
        obtain ⟨n5, rfl, _⟩ := hasT_int hf.2.2.2.2 h5
        exact ⟨n1, n2, n3, n4, n5, hx⟩
theorem hasT_word {x : D} (h : HasT Tryd.prog 8 24 x) : ∃ w, x = .int .u32 w ∧ 0 ≤ w ∧ w < 4294967296 := by
  obtain ⟨n, h1, h2⟩ := hasT_int under24 h
  refine ⟨n, h1, ?_⟩
  have e1 : IntKind.u32.min = 0 := rfl
  have e2 : IntKind.u32.max = 4294967295 := rfl
  simp only [Lit.wf, e1, e2] at h2
  simp at h2
  omega
end Go.Proofs.YtlcaoocfajkljaaDoor
