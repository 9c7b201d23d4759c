/- What is proved: for every instruction and every word the law RvBack returns true and leaves its arguments as they were; conditions: the package variable patina/rv.rows starts as the program's text lays it (the card ties it). -/
import Derived.Test.YtlcaoocfajkljaaDoorRvBackBase
namespace Go.Proofs.YtlcaoocfajkljaaDoor
open Go Go.Vm Go.ChangeShapes Go.WideShapes Go.ChangeAt Go.RowKit
set_option maxRecDepth 100000
theorem rvBack_key {H : Type} (ds : List (DataW H)) (h1 : ds.length = Tryd.f5.params.size) (h2 : ∀ (i : Nat) t x, Tryd.f5.params[i]? = some t → ds[i]? = some x → HasT Tryd.prog 8 t (dwD x)) : ∃ H', evF pg 5 ((ds.map dwD).map V.d) [] = some (.d (.bool true), H') := by
  have hp : Tryd.f5.params = #[23, 24] := Tryd.params5
  match ds, h1 with
  | [d0, d1], _ =>
    have hd0 := h2 0 23 d0 (by rw [hp]; rfl) rfl
    have hd1 := h2 1 24 d1 (by rw [hp]; rfl) rfl
    obtain ⟨op, rd, r1, r2, n, e⟩ := hasT_ins hd0
    obtain ⟨w, e2, hw⟩ := hasT_word hd1
    exact ⟨[], by rw [pg_eq]; show evF _ 5 [.d (dwD d0), .d (dwD d1)] [] = _; rw [e, e2]; exact Go.Vm.Rv.back_ev [] op rd r1 r2 n w hw⟩
theorem rvBack_lifted (os : Os) (started : os.Started) (H : Type) (enc : TypeId × Value → H) :
    ReturnsInHanded {} Tryd.checked os 5 .any (fun w args => (Rows.rvBackSpec.pre enc Tryd.prog Tryd.f5 [] false w args ∧ laidMetH Tryd.prog [("patina/rv.rows", Rows.laid_patina_rv_rows)] w) ∧ sizedMet enc Tryd.prog Tryd.f5 (OpenSpec.ofChange Rows.rvBackSpec) false w args)
      (Rows.rvBackSpec.post enc Tryd.prog Tryd.f5 false true false false) := by
  refine returnsInHanded_of_change_and (C := Tryd.checked) (X := fun w _ => laidMetH Tryd.prog [("patina/rv.rows", Rows.laid_patina_rv_rows)] w) (fun _ _ _ hh h => h.of_heap hh) own started (by kernel_rfl) Tryd.func5
    (ChangeSpec.witness_shaped (enc := enc) (C := Tryd.checked) (os := os) (X := fun w _ => laidMetH Tryd.prog [("patina/rv.rows", Rows.laid_patina_rv_rows)] w) false (World.doorLaid Tryd.prog 118 os) #[.agg #[.int .i64 0, .int .i64 0, .int .i64 0, .int .i64 0, .int .i64 0], .int .u32 0] 8 rfl (World.shaped_of_RefB (by kernel_rfl) (by kernel_rfl)) (by kernel_rfl) (by kernel_rfl) (by kernel_rfl) (door_met os _)) ?_
  intro W base args ds gs before hval hW _ _ hL _
  refine row_contract (m := 8) (tb := 4) tOk mixed laidOut rfl (fun ds h => ?_) (fun t ht => ?_) (by kernel_rfl) Tryd.underlying4 hval hW (globOk hL) (rvBack_key ds)
  · match ds, h with
    | [d0, d1], _ => rfl
  · rw [Tryd.params5] at ht
    simp only [List.mem_cons, List.not_mem_nil, or_false] at ht
    rcases ht with rfl | rfl
    · exact ⟨⟨by kernel_rfl, of_decide_eq_true (by kernel_rfl)⟩, by kernel_rfl⟩
    · exact ⟨⟨by kernel_rfl, of_decide_eq_true (by kernel_rfl)⟩, by kernel_rfl⟩
theorem rvBack_row : Rows.RvBackSaid :=
  OpenClaim.holds_of_wide 5 Tryd.f5 rfl rfl rfl rfl rfl rfl rfl ⟨rfl, rfl, rfl, rfl, rfl⟩ rfl rfl rfl rfl rfl (by kernel_rfl) Tryd.func5 (by kernel_rfl)
    (of_decide_eq_true (by kernel_rfl)) (by unfold Func.isWrapper; first | (rw [if_pos (by decide +kernel)]; kernel_rfl) | (rw [if_neg (by decide +kernel)]; exact ⟨rfl, rfl⟩))
    (fun os started H enc _ => rvBack_lifted os started H enc)
theorem rvBack_holds : Rows.RvBackCardSaid :=
  Claim7.holds_tied_plain_at .later [] [.data] true (true, "b2d8bf5e0507976353940f224b92914683724287b048d87e9a55316498092199") false
    rvBack_row (fun _ h => by cases h) (by kernel_rfl) (fun _ h => by cases h) rvBack_row_tie rfl ⟨rfl, rfl⟩ (by kernel_rfl) rfl
    (fun f fn hf hfn => by
      obtain rfl : f = 5 := Option.some.inj ((show Tryd.prog.funcNamed "patina/patinalaw01.RvBack" = some 5 by kernel_rfl).symm.trans hf) |>.symm
      obtain rfl : fn = Tryd.f5 := (Option.some.inj (Tryd.func5.symm.trans hfn)).symm
      exact ⟨by kernel_rfl, fun j t ht => by
        rw [Tryd.params5] at ht
        have ht := Array.mem_of_getElem? ht
        simp only [List.mem_toArray, List.mem_cons, List.not_mem_nil, or_false] at ht
        rcases ht with rfl | rfl
        · exact (show Tryd.prog.wantsStandIn 23 = false by kernel_rfl)
        · exact (show Tryd.prog.wantsStandIn 24 = false by kernel_rfl)⟩)
    (by kernel_rfl)
end Go.Proofs.YtlcaoocfajkljaaDoor
