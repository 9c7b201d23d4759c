/- For all arguments the law LexCovers of package patinalaw11 returns true and leaves its arguments as they were, under the card of this seat: the listed package variables start as the text of the program lays them. -/
import Derived.Test.YtnhoonglfejdeaaDoorLexRow3
namespace Go.Proofs.YtnhoonglfejdeaaDoor
open Go Go.Vm Go.ChangeShapes Go.WideShapes Go.ChangeAt Go.RowKit
set_option maxRecDepth 100000
theorem lexCovers_key {H : Type} (W : World) (ds : List (DataW H)) (h1 : ds.length = Tryd.f5.params.size) (h2 : ∀ (i : Nat) t x, Tryd.f5.params[i]? = some t → ds[i]? = some x → HasT Tryd.prog 8 t (dwD x)) : ∃ H', evF (pgW W) 5 ((ds.map dwD).map V.d) [] = some (.d (.bool true), H') := by
  have hp : Tryd.f5.params = #[9] := Tryd.params5
  match ds, h1 with
  | [d0], _ =>
    have hd0 := h2 0 9 d0 (by rw [hp]; rfl) rfl
    obtain ⟨s, e, hs⟩ := hasT_str under9 hd0
    exact ⟨[], by rw [pg_eq]; show evF _ 5 [.d (dwD d0)] [] = _; rw [e]; exact Go.Vm.Lex.lexCovers_ev [] s hs⟩
theorem lexCovers_lifted (os : Os) (started : os.Started) (H : Type) (enc : TypeId × Value → H) :
    ReturnsInHanded {} Tryd.checked os 5 .any (fun w args => (Rows.lexCoversSpec.pre enc Tryd.prog Tryd.f5 [] false w args ∧ laidMetH Tryd.prog laid7 w) ∧ sizedMet enc Tryd.prog Tryd.f5 (OpenSpec.ofChange Rows.lexCoversSpec) false w args)
      (Rows.lexCoversSpec.post enc Tryd.prog Tryd.f5 false true false false) := by
  refine returnsInHanded_of_change_and (C := Tryd.checked) (X := fun w _ => laidMetH Tryd.prog laid7 w) (fun _ _ _ hh h => h.of_heap hh) own started (by kernel_rfl) Tryd.func5
    (ChangeSpec.witness_shaped (enc := enc) (C := Tryd.checked) (os := os) (X := fun w _ => laidMetH Tryd.prog laid7 w) false (World.laidAll Tryd.prog os laid7) #[.string ⟨#[]⟩] 8 (World.laidAll_os _ _ _) (World.shaped_of_ZipB (by kernel_rfl) (by kernel_rfl)) (by kernel_rfl) (by kernel_rfl) (by kernel_rfl) (door_met os _)) ?_
  intro W base args ds gs before hval hW _ _ hL _
  refine row_contract (m := 8) (tb := 4) (pg := pgW W) (tOk hL) mixed laidOut rfl (fun ds h => ?_) (fun t ht => ?_) (by kernel_rfl) Tryd.underlying4 hval hW (globOk hL) (lexCovers_key W ds)
  · match ds, h with
    | [d0], _ => rfl
  · rw [Tryd.params5] at ht
    simp only [List.mem_cons, List.not_mem_nil, or_false] at ht
    subst ht
    · exact ⟨⟨by kernel_rfl, of_decide_eq_true (by kernel_rfl)⟩, by kernel_rfl⟩
theorem lexCovers_row : Rows.LexCoversSaid :=
  OpenClaim.holds_of_wide 5 Tryd.f5 rfl rfl rfl rfl rfl rfl rfl ⟨rfl, rfl, rfl, rfl, rfl⟩ rfl rfl rfl rfl rfl (by kernel_rfl) Tryd.func5 (by kernel_rfl)
    (of_decide_eq_true (by kernel_rfl)) (by unfold Func.isWrapper; first | (rw [if_pos (by decide +kernel)]; kernel_rfl) | (rw [if_neg (by decide +kernel)]; exact ⟨rfl, rfl⟩))
    (fun os started H enc _ => lexCovers_lifted os started H enc)
theorem lexCovers_holds : Rows.LexCoversCardSaid :=
  Claim7.holds_tied_plain_at .later [] [.data, .data, .data, .data, .sentinel, .sentinel, .pinned] true (true, "7b5f52f993f8b5e8ceae9e3545992d32674608b32ab0e851e8153ae232666606") true
    lexCovers_row (fun _ h => by cases h) (by kernel_rfl) (fun _ h => by cases h) lexCovers_row_tie rfl ⟨rfl, rfl⟩ (by kernel_rfl) rfl
    (fun f fn hf hfn => by
      obtain rfl : f = 5 := Option.some.inj ((show Tryd.prog.funcNamed "patina/patinalaw11.LexCovers" = some 5 by kernel_rfl).symm.trans hf) |>.symm
      obtain rfl : fn = Tryd.f5 := (Option.some.inj (Tryd.func5.symm.trans hfn)).symm
      exact ⟨by kernel_rfl, fun j t ht => by
        rw [Tryd.params5] at ht
        have ht := Array.mem_of_getElem? ht
        simp only [List.mem_toArray, List.mem_cons, List.not_mem_nil, or_false] at ht
        subst ht
        · exact (show Tryd.prog.wantsStandIn 9 = false by kernel_rfl)⟩)
    (by kernel_rfl)
end Go.Proofs.YtnhoonglfejdeaaDoor
