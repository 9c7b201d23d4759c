import Derived.Test.YtpgpjenfnbcclaaTypTbl
import Derived.Test.YtpgpjenfnbcclaaTypArg
import Derived.Test.YtpgpjenfnbcclaaTypV23
import Derived.LaidLaws
import Derived.Test.YtpgpjenfnbcclaaRows
import Derived.WalkKit
import Derived.ProofKit
import Derived.OpenShut
import Derived.Deep.DeepHandedRow
import Derived.SevenTiedAt
import Derived.Lay
set_option linter.unusedSimpArgs false
set_option linter.unusedVariables false
namespace Go.Proofs.Ytpgpjenfnbcclaa
open Go Go.Vm Go.ChangeShapes Go.WideShapes Go.ChangeAt Go.RowKit Go.Vm.Ip
set_option maxRecDepth 100000
theorem own : ownKnob Try.prog.godebug = none := by kernel_rfl
theorem laidOut : laidOutB Try.prog = true := by kernel_rfl
theorem mixed : Try.prog.follows .mixedOrders = true := by kernel_rfl
noncomputable def pgW (W : World) : Pg := ⟨⟨gvOf [], fixOf W []⟩, Go.Vm.Typ.tbl Go.Vm.Typ.F2⟩
theorem pg_eq (W : World) : pgW W = Go.Vm.Typ.pgL (fixOf W []) Go.Vm.Typ.F2 := rfl
theorem tOk {W : World} : TblOk Try.prog (pgW W) := Go.Vm.Typ.tOk2 _
theorem globOk {W : World} : GlobOk (pgW W).toCx W := globOk_of _ (fixOf_ok W _) fun p hp => by cases hp
theorem flat_met {laid : List (String × DataW Unit)} {w : World} (h : (laid.filter fun x => x.2.handleName?.isSome) = []) (hm : laidMet Try.prog laid w) : laidMetH Try.prog laid w := by
  unfold laidMetH
  rw [h]
  exact hm
theorem door_met (os : Os) (args : Array Value) : laidMetH Try.prog [] ((World.laidAll Try.prog os []).forCall (fun _ _ => 0) ⟨#[], args, []⟩).memory :=
  flat_met (by kernel_rfl) (laidMet_laidAll _ (by kernel_rfl) (by kernel_rfl))
def tys : Tys := ⟨26, 22, 23, 24, 57, 84, 87, 9, 55, 59, 85, 4, 3⟩
theorem tysOk : TysOk Try.prog tys where
  it := by kernel_rfl
  ss := ⟨by kernel_rfl, by kernel_rfl⟩
  es := ⟨by kernel_rfl, by kernel_rfl⟩
  fs := ⟨by kernel_rfl, by kernel_rfl⟩
  s := by kernel_rfl
  e := by kernel_rfl
  f := by kernel_rfl
  n := by kernel_rfl
  fl := ⟨by kernel_rfl, by kernel_rfl⟩
  fd := by kernel_rfl
  bs := ⟨by kernel_rfl, by kernel_rfl⟩
  b := by kernel_rfl
  i := by kernel_rfl
theorem str_of {m : Nat} {d : D} (h : HasW Try.prog (m + 1) 9 d) : ∃ s : S, d = .str s ∧ s.length ≤ mx := by
  obtain ⟨s, rfl, h1⟩ := hasW_str tysOk.n h
  have := rb
  exact ⟨s, rfl, by show s.length ≤ 140737488355328; omega⟩
end Go.Proofs.Ytpgpjenfnbcclaa
