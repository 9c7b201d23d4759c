import Derived.Test.YtpgpjenfnbcclaaTypTbl
import Derived.Test.YtpgpjenfnbcclaaTypArg
import Derived.Test.YtpgpjenfnbcclaaTypV23
import Derived.LaidLaws
import Derived.Test.YtpgpjenfnbcclaaRows
import Derived.WalkKit
import Derived.ProofKit
import Derived.OpenShut
import Derived.Deep.DeepHandedRow
import Derived.SevenTiedAt
import Derived.Lay
set_option linter.unusedSimpArgs false
set_option linter.unusedVariables false
namespace Go.Proofs.Ytpgpjenfnbcclaa
open Go Go.Vm Go.ChangeShapes Go.WideShapes Go.ChangeAt Go.RowKit Go.Vm.Ip
set_option maxRecDepth 100000
theorem own : ownKnob Try.prog.godebug = none := by kernel_rfl
theorem laidOut : laidOutB Try.prog = true := by kernel_rfl
theorem mixed : Try.prog.follows .mixedOrders = true := by kernel_rfl
noncomputable def pgW (W : World) : Pg := ⟨⟨gvOf [], fixOf W []⟩, Go.Vm.Typ.tbl Go.Vm.Typ.F2⟩
theorem pg_eq (W : World) : pgW W = Go.Vm.Typ.pgL (fixOf W []) Go.Vm.Typ.F2 := rfl
theorem tOk {W : World} : TblOk Try.prog (pgW W) := Go.Vm.Typ.tOk2 _
theorem globOk {W : World} : GlobOk (pgW W).toCx W := globOk_of _ (fixOf_ok W _) fun p hp => by cases hp
theorem flat_met {laid : List (String × DataW Unit)} {w : World} (h : (laid.filter fun x => x.2.handleName?.isSome) = []) (hm : laidMet Try.prog laid w) : laidMetH Try.prog laid w := by
  unfold laidMetH
  rw [h]
  exact hm
theorem door_met (os : Os) (args : Array Value) : laidMetH Try.prog [] ((World.laidAll Try.prog os []).forCall (fun _ _ => 0) ⟨#[], args, []⟩).memory :=
  flat_met (by kernel_rfl) (laidMet_laidAll _ (by kernel_rfl) (by kernel_rfl))
def tys : Tys := ⟨26, 22, 23, 24, 57, 84, 87, 9, 55, 59, 85, 4, 3⟩
theorem tysOk : TysOk Try.prog tys where
  it := by kernel_rfl
  ss := ⟨by kernel_rfl, by kernel_rfl⟩
  es := ⟨by kernel_rfl, by kernel_rfl⟩
  fs := ⟨by kernel_rfl, by kernel_rfl⟩
  s := by kernel_rfl
  e := by kernel_rfl
  f := by kernel_rfl
  n := by kernel_rfl
  fl := ⟨by kernel_rfl, by kernel_rfl⟩
  fd := by kernel_rfl
  bs := ⟨by kernel_rfl, by kernel_rfl⟩
  b := by kernel_rfl
  i := by kernel_rfl
theorem path_of {m : Nat} {d : D} (h : HasW Try.prog (m + 2) 27 d) : ∃ p : List Int, d = .sl (p.map (D.int .i64)) ∧ p.length ≤ mx ∧ ∀ k ∈ p, -9223372036854775808 ≤ k ∧ k ≤ 9223372036854775807 := by
  obtain ⟨l, rfl, h1, h2⟩ := hasW_slice (e := 3) (n := 8) (by kernel_rfl) (by kernel_rfl) h
  have h4 : ∀ y ∈ l, ∃ k : Int, y = D.int .i64 k ∧ (-9223372036854775808 ≤ k ∧ k ≤ 9223372036854775807) := fun y hy => by
    obtain ⟨n, hn, hw⟩ := hasW_int (k := .i64) tysOk.i (h2 y hy)
    exact ⟨n, hn, i64_of hw⟩
  obtain ⟨p, hp, h3⟩ := list_of h4
  subst hp
  have hr := rb
  rw [List.length_map] at h1
  exact ⟨p, rfl, by show p.length ≤ 140737488355328; omega, h3⟩
theorem str_of {m : Nat} {d : D} (h : HasW Try.prog (m + 1) 9 d) : ∃ s : S, d = .str s ∧ s.length ≤ mx := by
  obtain ⟨s, rfl, h1⟩ := hasW_str tysOk.n h
  have := rb
  exact ⟨s, rfl, by show s.length ≤ 140737488355328; omega⟩
theorem allW_4 {P : Program} {m a b c d : Nat} {xs : List D} (h : AllW P m [a, b, c, d] xs) : ∃ x1 x2 x3 x4, xs = [x1, x2, x3, x4] ∧ HasW P m a x1 ∧ HasW P m b x2 ∧ HasW P m c x3 ∧ HasW P m d x4 := by
  match xs, h with
  | [x1, x2, x3, x4], ⟨h1, h2, h3, h4, _⟩ => exact ⟨x1, x2, x3, x4, rfl, h1, h2, h3, h4⟩
theorem case_of {d : D} (h : HasW Try.prog 8 29 d) : ∃ (x : Its) (s : S) (k : Int) (p : List Int), d = Go.Vm.Typ.caseD x s k p ∧ Fine x ∧ s.length ≤ mx ∧ p.length ≤ mx ∧ ∀ k ∈ p, -9223372036854775808 ≤ k ∧ k ≤ 9223372036854775807 := by
  obtain ⟨xs, rfl, hx⟩ := hasW_struct (ts := [26, 9, 3, 27]) (by kernel_rfl) h
  obtain ⟨a, b, c, e, rfl, ha, hb, hc, he⟩ := allW_4 hx
  obtain ⟨x, rfl, h1⟩ := its_of (m := 1) tysOk ha
  obtain ⟨s, rfl, h2⟩ := str_of (m := 6) hb
  obtain ⟨n, rfl, h3⟩ := hasW_int (m := 6) tysOk.i hc
  obtain ⟨p, rfl, h4, h5⟩ := path_of (m := 5) he
  exact ⟨x, s, n, p, rfl, h1, h2, h4, h5⟩
end Go.Proofs.Ytpgpjenfnbcclaa
