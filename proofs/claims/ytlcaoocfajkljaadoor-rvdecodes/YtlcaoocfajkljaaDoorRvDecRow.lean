/- What is proved: for every word the law RvDecodes returns true and leaves its argument as it was; conditions: the package variable patina/rv.rows starts as the program's text lays it (the card ties it). -/
import Derived.Test.YtlcaoocfajkljaaDoorRvRow
namespace Go.Proofs.YtlcaoocfajkljaaDoor
open Go Go.Vm Go.ChangeShapes Go.WideShapes Go.ChangeAt Go.RowKit
set_option maxRecDepth 100000
theorem rvDecodes_key {H : Type} (ds : List (DataW H)) (h1 : ds.length = Tryd.f4.params.size) (h2 : ∀ (i : Nat) t x, Tryd.f4.params[i]? = some t → ds[i]? = some x → HasT Tryd.prog 8 t (dwD x)) : ∃ H', evF pg 4 ((ds.map dwD).map V.d) [] = some (.d (.bool true), H') := by
  have hp : Tryd.f4.params = #[24] := Tryd.params4
  match ds, h1 with
  | [d0], _ =>
    have hd0 := h2 0 24 d0 (by rw [hp]; rfl) rfl
    obtain ⟨w, e, hw⟩ := hasT_word hd0
    exact ⟨[], by rw [pg_eq]; show evF _ 4 [.d (dwD d0)] [] = _; rw [e]; exact Go.Vm.Rv.decodes_ev [] w hw⟩
theorem rvDecodes_lifted (os : Os) (started : os.Started) (H : Type) (enc : TypeId × Value → H) :
    ReturnsInHanded {} Tryd.checked os 4 .any (fun w args => (Rows.rvDecodesSpec.pre enc Tryd.prog Tryd.f4 [] false w args ∧ laidMetH Tryd.prog [("patina/rv.rows", Rows.laid_patina_rv_rows)] w) ∧ sizedMet enc Tryd.prog Tryd.f4 (OpenSpec.ofChange Rows.rvDecodesSpec) false w args)
      (Rows.rvDecodesSpec.post enc Tryd.prog Tryd.f4 false true false false) := by
  refine returnsInHanded_of_change_and (C := Tryd.checked) (X := fun w _ => laidMetH Tryd.prog [("patina/rv.rows", Rows.laid_patina_rv_rows)] w) (fun _ _ _ hh h => h.of_heap hh) own started (by kernel_rfl) Tryd.func4
    (ChangeSpec.witness_shaped (enc := enc) (C := Tryd.checked) (os := os) (X := fun w _ => laidMetH Tryd.prog [("patina/rv.rows", Rows.laid_patina_rv_rows)] w) false (World.doorLaid Tryd.prog 118 os) #[.int .u32 0] 8 rfl (World.shaped_of_RefB (by kernel_rfl) (by kernel_rfl)) (by kernel_rfl) (by kernel_rfl) (by kernel_rfl) (door_met os _)) ?_
  intro W base args ds gs before hval hW _ _ hL _
  refine row_contract (m := 8) (tb := 4) tOk mixed laidOut rfl (fun ds h => ?_) (fun t ht => ?_) (by kernel_rfl) Tryd.underlying4 hval hW (globOk hL) (rvDecodes_key ds)
  · match ds, h with
    | [d0], _ => rfl
  · rw [Tryd.params4] at ht
    simp only [List.mem_cons, List.not_mem_nil, or_false] at ht
    subst ht
    · exact ⟨⟨by kernel_rfl, of_decide_eq_true (by kernel_rfl)⟩, by kernel_rfl⟩
theorem rvDecodes_row : Rows.RvDecodesSaid :=
  OpenClaim.holds_of_wide 4 Tryd.f4 rfl rfl rfl rfl rfl rfl rfl ⟨rfl, rfl, rfl, rfl, rfl⟩ rfl rfl rfl rfl rfl (by kernel_rfl) Tryd.func4 (by kernel_rfl)
    (of_decide_eq_true (by kernel_rfl)) (by unfold Func.isWrapper; first | (rw [if_pos (by decide +kernel)]; kernel_rfl) | (rw [if_neg (by decide +kernel)]; exact ⟨rfl, rfl⟩))
    (fun os started H enc _ => rvDecodes_lifted os started H enc)
theorem rvDecodes_holds : Rows.RvDecodesCardSaid :=
  Claim7.holds_tied_plain_at .later [] [.data] true (true, "b2d8bf5e0507976353940f224b92914683724287b048d87e9a55316498092199") false
    rvDecodes_row (fun _ h => by cases h) (by kernel_rfl) (fun _ h => by cases h) rvDecodes_row_tie rfl ⟨rfl, rfl⟩ (by kernel_rfl) rfl
    (fun f fn hf hfn => by
      obtain rfl : f = 4 := Option.some.inj ((show Tryd.prog.funcNamed "patina/patinalaw01.RvDecodes" = some 4 by kernel_rfl).symm.trans hf) |>.symm
      obtain rfl : fn = Tryd.f4 := (Option.some.inj (Tryd.func4.symm.trans hfn)).symm
      exact ⟨by kernel_rfl, fun j t ht => by
        rw [Tryd.params4] at ht
        have ht := Array.mem_of_getElem? ht
        simp only [List.mem_toArray, List.mem_cons, List.not_mem_nil, or_false] at ht
        subst ht
        · exact (show Tryd.prog.wantsStandIn 24 = false by kernel_rfl)⟩)
    (by kernel_rfl)
end Go.Proofs.YtlcaoocfajkljaaDoor
