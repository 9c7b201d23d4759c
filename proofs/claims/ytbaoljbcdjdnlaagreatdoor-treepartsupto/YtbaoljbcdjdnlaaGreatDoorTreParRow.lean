/- For all arguments up to the size that the statement names the law TreeParts of package patinalaw13 returns true and leaves its arguments as they were, under the card of this seat: the listed package variables start as the text of the program lays them. -/
import Derived.Test.YtbaoljbcdjdnlaaGreatDoorTreRow
import Derived.Test.YtbaoljbcdjdnlaaGreatDoorTreS6
set_option linter.unusedSimpArgs false
set_option linter.unusedVariables false
namespace Go.Proofs.YtbaoljbcdjdnlaaGreatDoor
open Go Go.Vm Go.ChangeShapes Go.WideShapes Go.ChangeAt Go.RowKit Go.Vm.Tp
set_option maxRecDepth 100000
theorem treePartsUpto_key {H : Type} (W : World) (ds : List (DataW H)) (h1 : ds.length = Tryz.f5.params.size) (h2 : ∀ (i : Nat) t x, Tryz.f5.params[i]? = some t → ds[i]? = some x → HasT Tryz.prog 8 t (dwD x)) (hk : Rows.uptoSmall H ds = true) : ∃ H', evF (pgW W) 5 ((ds.map dwD).map V.d) [] = some (.d (.bool true), H') := by
  have hp : Tryz.f5.params = #[24, 3] := Tryz.params5
  match ds, h1 with
  | [d0, d1], _ =>
    have hd0 := h2 0 24 d0 (by rw [hp]; rfl) rfl
    have hk0 := bulk_at (d := d0) hk (by simp)
    have hd1 := h2 1 3 d1 (by rw [hp]; rfl) rfl
    have hk1 := bulk_at (d := d1) hk (by simp)
    obtain ⟨t, e1, _, w1⟩ := tree_arg hd0
    obtain ⟨n, e2, hn⟩ := hasT_int under3 hd1
    rw [e1] at hk0
    exact ⟨[], by rw [pg_eq]; show evF _ 5 [.d (dwD d0), .d (dwD d1)] [] = _; rw [e1, e2]; exact Go.Vm.Tre.lawparts_ev [] t (fine_of hk0 w1) n (i64_of hn)⟩
theorem treePartsUpto_lifted (os : Os) (started : os.Started) (H : Type) (enc : TypeId × Value → H) (F : Stop.Interp) :
    ReturnsInHanded {} Tryz.checked os 5 .any ((Rows.OpenSpec.upto Rows.treePartsSpec).preRow enc Tryz.prog Tryz.f5 Rows.treePartsUptoRow.domain false Rows.treePartsUptoRow.laid) (((Rows.OpenSpec.upto Rows.treePartsSpec).at F).post enc Tryz.prog Tryz.f5 false true false false) := by
  refine returnsInHanded_of_row (C := Tryz.checked) (s := Rows.OpenSpec.upto Rows.treePartsSpec) own started (by kernel_rfl) Tryz.func5
    (witness_row_at (enc := enc) (C := Tryz.checked) false (World.laidAll Tryz.prog os laid3) #[.agg #[.slice none 0 0], .int .i64 0] (World.laidAll_os _ _ _) (by kernel_rfl) (by kernel_rfl) (by kernel_rfl)
      (OpenSpec.preRow_of_cond 8 (x := ([.agg [.nil], .lit (.int .i64 0)], [], [])) (by kernel_rfl) (by kernel_rfl) (fun k hk => by cases hk; kernel_rfl) (by kernel_rfl) (door_met os _))) ?_
  intro W base args ds gs before hval hW _ hcond _ hL hsh _
  have hgs : gs = [] := (trodVars_none hW.choose_spec.choose_spec.2.1).1
  refine row_contract (s := Rows.treePartsSpec) (m := 8) (tb := 4) (pg := pgW W) (tOk hL hsh) mixed laidOut rfl (fun ds h => ?_) (fun t ht => ?_) (by kernel_rfl) Tryz.underlying4 hval hW globOk (fun h1 h2 => treePartsUpto_key W ds h1 h2 (by have := hcond _ rfl; rw [hgs, List.append_nil] at this; exact this))
  · match ds, h with
    | [d0, d1], _ => rfl
  · rw [Tryz.params5] at ht
    simp only [List.mem_cons, List.not_mem_nil, or_false] at ht
    rcases ht with rfl | rfl
    · exact ⟨⟨by kernel_rfl, of_decide_eq_true (by kernel_rfl)⟩, by kernel_rfl⟩
    · exact ⟨⟨by kernel_rfl, of_decide_eq_true (by kernel_rfl)⟩, by kernel_rfl⟩
theorem treePartsUpto_row : Rows.TreePartsUptoSaid :=
  OpenClaim.holds_of_cond 5 Tryz.f5 rfl rfl rfl rfl rfl rfl rfl ⟨rfl, rfl, rfl, rfl, rfl⟩ rfl rfl rfl rfl rfl (by kernel_rfl) Tryz.func5 (by kernel_rfl)
    (of_decide_eq_true (by kernel_rfl)) (by unfold Func.isWrapper; first | (rw [if_pos (by decide +kernel)]; kernel_rfl) | (rw [if_neg (by decide +kernel)]; exact ⟨rfl, rfl⟩))
    (fun os started H enc _ F => by rw [OpenClaim.pre_eq_preRow]; exact treePartsUpto_lifted os started H enc F)
theorem treePartsUpto_plain (f : FuncId) (fn : Func) (hf : Tryz.pinned.checked.prog.funcNamed "patina/patinalaw13.TreeParts" = some f) (hfn : Tryz.pinned.checked.prog.funcs[f]? = some fn) :
    false = Tryz.pinned.checked.prog.looks [] ∧ ∀ (j : Nat) t, fn.params[j]? = some t → Tryz.pinned.checked.prog.wantsStandIn t = false := by
  obtain rfl : f = 5 := Option.some.inj ((show Tryz.prog.funcNamed "patina/patinalaw13.TreeParts" = some 5 by kernel_rfl).symm.trans hf) |>.symm
  obtain rfl : fn = Tryz.f5 := (Option.some.inj (Tryz.func5.symm.trans hfn)).symm
  refine ⟨by kernel_rfl, fun j t ht => ?_⟩
  rw [Tryz.params5] at ht
  have ht := Array.mem_of_getElem? ht
  simp only [List.mem_toArray, List.mem_cons, List.not_mem_nil, or_false] at ht
  rcases ht with rfl | rfl
  · exact (show Tryz.prog.wantsStandIn 24 = false by kernel_rfl)
  · exact (show Tryz.prog.wantsStandIn 3 = false by kernel_rfl)
theorem treePartsUpto_holds : Rows.TreePartsUptoCardSaid :=
  Claim7.holds_tied_plain_at .later [] _ _ _ _ treePartsUpto_row (fun _ h => by cases h) (by kernel_rfl) (fun _ h => by cases h) treePartsUpto_row_tie rfl ⟨rfl, rfl⟩ (by kernel_rfl) rfl treePartsUpto_plain (by kernel_rfl)
end Go.Proofs.YtbaoljbcdjdnlaaGreatDoor
