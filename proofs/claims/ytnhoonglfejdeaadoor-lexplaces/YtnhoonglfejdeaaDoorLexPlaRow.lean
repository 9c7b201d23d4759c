/- For all arguments the law LexPlaces of package patinalaw11 returns true and leaves its arguments as they were, under the card of this seat: the listed package variables start as the text of the program lays them. -/
import Derived.Test.YtnhoonglfejdeaaDoorLexRow2
namespace Go.Proofs.YtnhoonglfejdeaaDoor
open Go Go.Vm Go.ChangeShapes Go.WideShapes Go.ChangeAt Go.RowKit
set_option maxRecDepth 100000
theorem lexPlaces_key {H : Type} (W : World) (ds : List (DataW H)) (h1 : ds.length = Tryd.f9.params.size) (h2 : ∀ (i : Nat) t x, Tryd.f9.params[i]? = some t → ds[i]? = some x → HasT Tryd.prog 8 t (dwD x)) : ∃ H', evF (pgW W) 9 ((ds.map dwD).map V.d) [] = some (.d (.bool true), H') := by
  have hp : Tryd.f9.params = #[9, 3] := Tryd.params9
  match ds, h1 with
  | [d0, d1], _ =>
    have hd0 := h2 0 9 d0 (by rw [hp]; rfl) rfl
    have hd1 := h2 1 3 d1 (by rw [hp]; rfl) rfl
    obtain ⟨s, e, hs⟩ := hasT_str under9 hd0
    obtain ⟨n, e2, _⟩ := hasT_int under3 hd1
    exact ⟨[], by rw [pg_eq]; show evF _ 9 [.d (dwD d0), .d (dwD d1)] [] = _; rw [e, e2]; exact Go.Vm.Lex.lexPlaces_ev [] s hs n⟩
theorem lexPlaces_lifted (os : Os) (started : os.Started) (H : Type) (enc : TypeId × Value → H) :
    ReturnsInHanded {} Tryd.checked os 9 .any (fun w args => (Rows.lexPlacesSpec.pre enc Tryd.prog Tryd.f9 [] false w args ∧ laidMetH Tryd.prog laid7 w) ∧ sizedMet enc Tryd.prog Tryd.f9 (OpenSpec.ofChange Rows.lexPlacesSpec) false w args)
      (Rows.lexPlacesSpec.post enc Tryd.prog Tryd.f9 false true false false) := by
  refine returnsInHanded_of_change_and (C := Tryd.checked) (X := fun w _ => laidMetH Tryd.prog laid7 w) (fun _ _ _ hh h => h.of_heap hh) own started (by kernel_rfl) Tryd.func9
    (ChangeSpec.witness_shaped (enc := enc) (C := Tryd.checked) (os := os) (X := fun w _ => laidMetH Tryd.prog laid7 w) false (World.laidAll Tryd.prog os laid7) #[.string ⟨#[]⟩, .int .i64 0] 8 (World.laidAll_os _ _ _) (World.shaped_of_ZipB (by kernel_rfl) (by kernel_rfl)) (by kernel_rfl) (by kernel_rfl) (by kernel_rfl) (door_met os _)) ?_
  intro W base args ds gs before hval hW _ _ hL _
  refine row_contract (m := 8) (tb := 4) (pg := pgW W) (tOk hL) mixed laidOut rfl (fun ds h => ?_) (fun t ht => ?_) (by kernel_rfl) Tryd.underlying4 hval hW (globOk hL) (lexPlaces_key W ds)
  · match ds, h with
    | [d0, d1], _ => rfl
  · rw [Tryd.params9] at ht
    simp only [List.mem_cons, List.not_mem_nil, or_false] at ht
    rcases ht with rfl | rfl
    · exact ⟨⟨by kernel_rfl, of_decide_eq_true (by kernel_rfl)⟩, by kernel_rfl⟩
    · exact ⟨⟨by kernel_rfl, of_decide_eq_true (by kernel_rfl)⟩, by kernel_rfl⟩
theorem lexPlaces_row : Rows.LexPlacesSaid :=
  OpenClaim.holds_of_wide 9 Tryd.f9 rfl rfl rfl rfl rfl rfl rfl ⟨rfl, rfl, rfl, rfl, rfl⟩ rfl rfl rfl rfl rfl (by kernel_rfl) Tryd.func9 (by kernel_rfl)
    (of_decide_eq_true (by kernel_rfl)) (by unfold Func.isWrapper; first | (rw [if_pos (by decide +kernel)]; kernel_rfl) | (rw [if_neg (by decide +kernel)]; exact ⟨rfl, rfl⟩))
    (fun os started H enc _ => lexPlaces_lifted os started H enc)
theorem lexPlaces_holds : Rows.LexPlacesCardSaid :=
  Claim7.holds_tied_plain_at .later [] [.data, .data, .data, .data, .sentinel, .sentinel, .pinned] true (true, "7b5f52f993f8b5e8ceae9e3545992d32674608b32ab0e851e8153ae232666606") true
    lexPlaces_row (fun _ h => by cases h) (by kernel_rfl) (fun _ h => by cases h) lexPlaces_row_tie rfl ⟨rfl, rfl⟩ (by kernel_rfl) rfl
    (fun f fn hf hfn => by
      obtain rfl : f = 9 := Option.some.inj ((show Tryd.prog.funcNamed "patina/patinalaw11.LexPlaces" = some 9 by kernel_rfl).symm.trans hf) |>.symm
      obtain rfl : fn = Tryd.f9 := (Option.some.inj (Tryd.func9.symm.trans hfn)).symm
      exact ⟨by kernel_rfl, fun j t ht => by
        rw [Tryd.params9] at ht
        have ht := Array.mem_of_getElem? ht
        simp only [List.mem_toArray, List.mem_cons, List.not_mem_nil, or_false] at ht
        rcases ht with rfl | rfl
        · exact (show Tryd.prog.wantsStandIn 9 = false by kernel_rfl)
        · exact (show Tryd.prog.wantsStandIn 3 = false by kernel_rfl)⟩)
    (by kernel_rfl)
end Go.Proofs.YtnhoonglfejdeaaDoor
