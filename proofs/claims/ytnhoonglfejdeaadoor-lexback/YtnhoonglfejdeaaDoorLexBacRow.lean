/- For all arguments the law LexBack of package patinalaw11 returns true and leaves its arguments as they were, under the card of this seat: the listed package variables start as the text of the program lays them. -/
import Derived.Test.YtnhoonglfejdeaaDoorLexRow4
namespace Go.Proofs.YtnhoonglfejdeaaDoor
open Go Go.Vm Go.ChangeShapes Go.WideShapes Go.ChangeAt Go.RowKit
set_option maxRecDepth 100000
theorem lexBack_key {H : Type} (W : World) (ds : List (DataW H)) (h1 : ds.length = Tryd.f8.params.size) (h2 : ∀ (i : Nat) t x, Tryd.f8.params[i]? = some t → ds[i]? = some x → HasT Tryd.prog 8 t (dwD x)) : ∃ H', evF (pgW W) 8 ((ds.map dwD).map V.d) [] = some (.d (.bool true), H') := by
  have hp : Tryd.f8.params = #[22] := Tryd.params8
  match ds, h1 with
  | [d0], _ =>
    have hd0 := h2 0 22 d0 (by rw [hp]; rfl) rfl
    obtain ⟨l, e, _, hl⟩ := hasT_slice under22 hd0
    obtain ⟨ts, e2, hts⟩ := toks_of l hl
    exact ⟨[], by rw [pg_eq]; show evF _ 8 [.d (dwD d0)] [] = _; rw [e, e2]; exact Go.Vm.Lex.lexBack_ev [] ts hts⟩
theorem lexBack_lifted (os : Os) (started : os.Started) (H : Type) (enc : TypeId × Value → H) :
    ReturnsInHanded {} Tryd.checked os 8 .any (fun w args => (Rows.lexBackSpec.pre enc Tryd.prog Tryd.f8 [] false w args ∧ laidMetH Tryd.prog laid7 w) ∧ sizedMet enc Tryd.prog Tryd.f8 (OpenSpec.ofChange Rows.lexBackSpec) false w args)
      (Rows.lexBackSpec.post enc Tryd.prog Tryd.f8 false true false false) := by
  refine returnsInHanded_of_change_and (C := Tryd.checked) (X := fun w _ => laidMetH Tryd.prog laid7 w) (fun _ _ _ hh h => h.of_heap hh) own started (by kernel_rfl) Tryd.func8
    (ChangeSpec.witness_shaped (enc := enc) (C := Tryd.checked) (os := os) (X := fun w _ => laidMetH Tryd.prog laid7 w) false (World.laidAll Tryd.prog os laid7) #[.slice none 0 0] 8 (World.laidAll_os _ _ _) (World.shaped_of_ZipB (by kernel_rfl) (by kernel_rfl)) (by kernel_rfl) (by kernel_rfl) (by kernel_rfl) (door_met os _)) ?_
  intro W base args ds gs before hval hW _ _ hL _
  refine row_contract (m := 8) (tb := 4) (pg := pgW W) (tOk hL) mixed laidOut rfl (fun ds h => ?_) (fun t ht => ?_) (by kernel_rfl) Tryd.underlying4 hval hW (globOk hL) (lexBack_key W ds)
  · match ds, h with
    | [d0], _ => rfl
  · rw [Tryd.params8] at ht
    simp only [List.mem_cons, List.not_mem_nil, or_false] at ht
    subst ht
    · exact ⟨⟨by kernel_rfl, of_decide_eq_true (by kernel_rfl)⟩, by kernel_rfl⟩
theorem lexBack_row : Rows.LexBackSaid :=
  OpenClaim.holds_of_wide 8 Tryd.f8 rfl rfl rfl rfl rfl rfl rfl ⟨rfl, rfl, rfl, rfl, rfl⟩ rfl rfl rfl rfl rfl (by kernel_rfl) Tryd.func8 (by kernel_rfl)
    (of_decide_eq_true (by kernel_rfl)) (by unfold Func.isWrapper; first | (rw [if_pos (by decide +kernel)]; kernel_rfl) | (rw [if_neg (by decide +kernel)]; exact ⟨rfl, rfl⟩))
    (fun os started H enc _ => lexBack_lifted os started H enc)
theorem lexBack_holds : Rows.LexBackCardSaid :=
  Claim7.holds_tied_plain_at .later [] [.data, .data, .data, .data, .sentinel, .sentinel, .pinned] true (true, "7b5f52f993f8b5e8ceae9e3545992d32674608b32ab0e851e8153ae232666606") true
    lexBack_row (fun _ h => by cases h) (by kernel_rfl) (fun _ h => by cases h) lexBack_row_tie rfl ⟨rfl, rfl⟩ (by kernel_rfl) rfl
    (fun f fn hf hfn => by
      obtain rfl : f = 8 := Option.some.inj ((show Tryd.prog.funcNamed "patina/patinalaw11.LexBack" = some 8 by kernel_rfl).symm.trans hf) |>.symm
      obtain rfl : fn = Tryd.f8 := (Option.some.inj (Tryd.func8.symm.trans hfn)).symm
      exact ⟨by kernel_rfl, fun j t ht => by
        rw [Tryd.params8] at ht
        have ht := Array.mem_of_getElem? ht
        simp only [List.mem_toArray, List.mem_cons, List.not_mem_nil, or_false] at ht
        subst ht
        · exact (show Tryd.prog.wantsStandIn 22 = false by kernel_rfl)⟩)
    (by kernel_rfl)
end Go.Proofs.YtnhoonglfejdeaaDoor
