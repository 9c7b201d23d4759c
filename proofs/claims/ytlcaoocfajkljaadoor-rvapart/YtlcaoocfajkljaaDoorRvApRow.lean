/- What is proved: for every two instructions the law RvApart returns true and leaves its arguments as they were; conditions: the listed package variables start as the program's text lays them (the card ties them). -/
import Derived.Test.YtlcaoocfajkljaaDoorRvRow2
import Derived.Test.YtlcaoocfajkljaaDoorRvW14
namespace Go.Proofs.YtlcaoocfajkljaaDoor
open Go Go.Vm Go.ChangeShapes Go.WideShapes Go.ChangeAt Go.RowKit
set_option maxRecDepth 100000
theorem rvApart_key {H : Type} (W : World) (ds : List (DataW H)) (h1 : ds.length = Tryd.f6.params.size) (h2 : ∀ (i : Nat) t x, Tryd.f6.params[i]? = some t → ds[i]? = some x → HasT Tryd.prog 8 t (dwD x)) : ∃ H', evF (pgW W) 6 ((ds.map dwD).map V.d) [] = some (.d (.bool true), H') := by
  have hp : Tryd.f6.params = #[23, 23] := Tryd.params6
  match ds, h1 with
  | [d0, d1], _ =>
    have hd0 := h2 0 23 d0 (by rw [hp]; rfl) rfl
    have hd1 := h2 1 23 d1 (by rw [hp]; rfl) rfl
    obtain ⟨op, rd, r1, r2, n, e, s1, s2, s3, s4⟩ := hasT_ins hd0
    obtain ⟨op', rd', r1', r2', n', e2, t1, t2, t3, t4⟩ := hasT_ins hd1
    exact ⟨[], by rw [pg_eq]; show evF _ 6 [.d (dwD d0), .d (dwD d1)] [] = _; rw [e, e2]; exact Go.Vm.Rv.apart_ev [] op rd r1 r2 n op' rd' r1' r2' n' s1 s2 s3 s4 t1 t2 t3 t4⟩
theorem rvApart_lifted (os : Os) (started : os.Started) (H : Type) (enc : TypeId × Value → H) :
    ReturnsInHanded {} Tryd.checked os 6 .any (fun w args => (Rows.rvApartSpec.pre enc Tryd.prog Tryd.f6 [] false w args ∧ laidMetH Tryd.prog laid6 w) ∧ sizedMet enc Tryd.prog Tryd.f6 (OpenSpec.ofChange Rows.rvApartSpec) false w args)
      (Rows.rvApartSpec.post enc Tryd.prog Tryd.f6 false true false false) := by
  refine returnsInHanded_of_change_and (C := Tryd.checked) (X := fun w _ => laidMetH Tryd.prog laid6 w) (fun _ _ _ hh h => h.of_heap hh) own started (by kernel_rfl) Tryd.func6
    (ChangeSpec.witness_shaped (enc := enc) (C := Tryd.checked) (os := os) (X := fun w _ => laidMetH Tryd.prog laid6 w) false (World.laidAll Tryd.prog os laid6) #[.agg #[.int .i64 0, .int .i64 0, .int .i64 0, .int .i64 0, .int .i64 0], .agg #[.int .i64 0, .int .i64 0, .int .i64 0, .int .i64 0, .int .i64 0]] 8 (World.laidAll_os _ _ _) (World.shaped_of_ZipB (by kernel_rfl) (by kernel_rfl)) (by kernel_rfl) (by kernel_rfl) (by kernel_rfl) (door_met os _)) ?_
  intro W base args ds gs before hval hW _ _ hL _
  refine row_contract (m := 8) (tb := 4) (pg := pgW W) (tOk hL) mixed laidOut rfl (fun ds h => ?_) (fun t ht => ?_) (by kernel_rfl) Tryd.underlying4 hval hW (globOk hL) (rvApart_key W ds)
  · match ds, h with
    | [d0, d1], _ => rfl
  · rw [Tryd.params6] at ht
    simp only [List.mem_cons, List.not_mem_nil, or_false] at ht
    rcases ht with rfl | rfl
    · exact ⟨⟨by kernel_rfl, of_decide_eq_true (by kernel_rfl)⟩, by kernel_rfl⟩
    · exact ⟨⟨by kernel_rfl, of_decide_eq_true (by kernel_rfl)⟩, by kernel_rfl⟩
theorem rvApart_row : Rows.RvApartSaid :=
  OpenClaim.holds_of_wide 6 Tryd.f6 rfl rfl rfl rfl rfl rfl rfl ⟨rfl, rfl, rfl, rfl, rfl⟩ rfl rfl rfl rfl rfl (by kernel_rfl) Tryd.func6 (by kernel_rfl)
    (of_decide_eq_true (by kernel_rfl)) (by unfold Func.isWrapper; first | (rw [if_pos (by decide +kernel)]; kernel_rfl) | (rw [if_neg (by decide +kernel)]; exact ⟨rfl, rfl⟩))
    (fun os started H enc _ => rvApart_lifted os started H enc)
theorem rvApart_holds : Rows.RvApartCardSaid :=
  Claim7.holds_tied_plain_at .later [] [.data, .data, .data, .listed, .data, .data] true (true, "b2d8bf5e0507976353940f224b92914683724287b048d87e9a55316498092199") false
    rvApart_row (fun _ h => by cases h) (by kernel_rfl) (fun _ h => by cases h) rvApart_row_tie rfl ⟨rfl, rfl⟩ (by kernel_rfl) rfl
    (fun f fn hf hfn => by
      obtain rfl : f = 6 := Option.some.inj ((show Tryd.prog.funcNamed "patina/patinalaw01.RvApart" = some 6 by kernel_rfl).symm.trans hf) |>.symm
      obtain rfl : fn = Tryd.f6 := (Option.some.inj (Tryd.func6.symm.trans hfn)).symm
      exact ⟨by kernel_rfl, fun j t ht => by
        rw [Tryd.params6] at ht
        have ht := Array.mem_of_getElem? ht
        simp only [List.mem_toArray, List.mem_cons, List.not_mem_nil, or_false] at ht
        rcases ht with rfl | rfl
        · exact (show Tryd.prog.wantsStandIn 23 = false by kernel_rfl)
        · exact (show Tryd.prog.wantsStandIn 23 = false by kernel_rfl)⟩)
    (by kernel_rfl)
end Go.Proofs.YtlcaoocfajkljaaDoor
