/- For all arguments the law LexBlanks of package patinalaw11 returns true and leaves its arguments as they were, under the card of this seat: the listed package variables start as the text of the program lays them. -/
import Derived.Test.YtnhoonglfejdeaaDoorLexRow3
namespace Go.Proofs.YtnhoonglfejdeaaDoor
open Go Go.Vm Go.ChangeShapes Go.WideShapes Go.ChangeAt Go.RowKit
set_option maxRecDepth 100000
theorem lexBlanks_key {H : Type} (W : World) (ds : List (DataW H)) (h1 : ds.length = Tryd.f6.params.size) (h2 : ∀ (i : Nat) t x, Tryd.f6.params[i]? = some t → ds[i]? = some x → HasT Tryd.prog 8 t (dwD x)) (gs : List (DataW H)) (hsz : (DataW.weightsEach Tryd.prog (Tryd.f6.params.toList ++ Rows.lexBlanksSpec.plain.varTypes Tryd.prog) (ds ++ gs)).all (· ≤ reachBytes) = true) : ∃ H', evF (pgW W) 6 ((ds.map dwD).map V.d) [] = some (.d (.bool true), H') := by
  have hp : Tryd.f6.params = #[9, 9] := Tryd.params6
  match ds, h1 with
  | [d0, d1], _ =>
    have hd0 := h2 0 9 d0 (by rw [hp]; rfl) rfl
    have hd1 := h2 1 9 d1 (by rw [hp]; rfl) rfl
    obtain ⟨a, e, _⟩ := hasT_str under9 hd0
    obtain ⟨b, e2, _⟩ := hasT_str under9 hd1
    have l0 := sized_string hsz (j := 0) (t := 9) (bytes := a) (by rw [hp]; rfl) (by rw [dw_str e]; rfl)
    have l1 := sized_string hsz (j := 1) (t := 9) (bytes := b) (by rw [hp]; rfl) (by rw [dw_str e2]; rfl)
    have hr := reachBytes_lt
    exact ⟨[], by rw [pg_eq]; show evF _ 6 [.d (dwD d0), .d (dwD d1)] [] = _; rw [e, e2]; exact Go.Vm.Lex.lexBlanks_ev [] a b (by omega) (by omega)⟩
theorem lexBlanks_lifted (os : Os) (started : os.Started) (H : Type) (enc : TypeId × Value → H) :
    ReturnsInHanded {} Tryd.checked os 6 .any (fun w args => (Rows.lexBlanksSpec.pre enc Tryd.prog Tryd.f6 [] false w args ∧ laidMetH Tryd.prog laid7 w) ∧ sizedMet enc Tryd.prog Tryd.f6 (OpenSpec.ofChange Rows.lexBlanksSpec) false w args)
      (Rows.lexBlanksSpec.post enc Tryd.prog Tryd.f6 false true false false) := by
  refine returnsInHanded_of_change_and (C := Tryd.checked) (X := fun w _ => laidMetH Tryd.prog laid7 w) (fun _ _ _ hh h => h.of_heap hh) own started (by kernel_rfl) Tryd.func6
    (ChangeSpec.witness_shaped (enc := enc) (C := Tryd.checked) (os := os) (X := fun w _ => laidMetH Tryd.prog laid7 w) false (World.laidAll Tryd.prog os laid7) #[.string ⟨#[]⟩, .string ⟨#[]⟩] 8 (World.laidAll_os _ _ _) (World.shaped_of_ZipB (by kernel_rfl) (by kernel_rfl)) (by kernel_rfl) (by kernel_rfl) (by kernel_rfl) (door_met os _)) ?_
  intro W base args ds gs before hval hW _ hsz hL _
  refine row_contract (m := 8) (tb := 4) (pg := pgW W) (tOk hL) mixed laidOut rfl (fun ds h => ?_) (fun t ht => ?_) (by kernel_rfl) Tryd.underlying4 hval hW (globOk hL) (fun h1 h2 => lexBlanks_key W ds h1 h2 gs hsz)
  · match ds, h with
    | [d0, d1], _ => rfl
  · rw [Tryd.params6] at ht
    simp only [List.mem_cons, List.not_mem_nil, or_false] at ht
    rcases ht with rfl | rfl
    · exact ⟨⟨by kernel_rfl, of_decide_eq_true (by kernel_rfl)⟩, by kernel_rfl⟩
    · exact ⟨⟨by kernel_rfl, of_decide_eq_true (by kernel_rfl)⟩, by kernel_rfl⟩
theorem lexBlanks_row : Rows.LexBlanksSaid :=
  OpenClaim.holds_of_wide 6 Tryd.f6 rfl rfl rfl rfl rfl rfl rfl ⟨rfl, rfl, rfl, rfl, rfl⟩ rfl rfl rfl rfl rfl (by kernel_rfl) Tryd.func6 (by kernel_rfl)
    (of_decide_eq_true (by kernel_rfl)) (by unfold Func.isWrapper; first | (rw [if_pos (by decide +kernel)]; kernel_rfl) | (rw [if_neg (by decide +kernel)]; exact ⟨rfl, rfl⟩))
    (fun os started H enc _ => lexBlanks_lifted os started H enc)
theorem lexBlanks_holds : Rows.LexBlanksCardSaid :=
  Claim7.holds_tied_plain_at .later [] [.data, .data, .data, .data, .sentinel, .sentinel, .pinned] true (true, "7b5f52f993f8b5e8ceae9e3545992d32674608b32ab0e851e8153ae232666606") true
    lexBlanks_row (fun _ h => by cases h) (by kernel_rfl) (fun _ h => by cases h) lexBlanks_row_tie rfl ⟨rfl, rfl⟩ (by kernel_rfl) rfl
    (fun f fn hf hfn => by
      obtain rfl : f = 6 := Option.some.inj ((show Tryd.prog.funcNamed "patina/patinalaw11.LexBlanks" = some 6 by kernel_rfl).symm.trans hf) |>.symm
      obtain rfl : fn = Tryd.f6 := (Option.some.inj (Tryd.func6.symm.trans hfn)).symm
      exact ⟨by kernel_rfl, fun j t ht => by
        rw [Tryd.params6] at ht
        have ht := Array.mem_of_getElem? ht
        simp only [List.mem_toArray, List.mem_cons, List.not_mem_nil, or_false] at ht
        rcases ht with rfl | rfl
        · exact (show Tryd.prog.wantsStandIn 9 = false by kernel_rfl)
        · exact (show Tryd.prog.wantsStandIn 9 = false by kernel_rfl)⟩)
    (by kernel_rfl)
end Go.Proofs.YtnhoonglfejdeaaDoor
