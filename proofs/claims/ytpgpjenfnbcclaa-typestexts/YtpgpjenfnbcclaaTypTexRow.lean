/- For all arguments the law TypesTexts of package patinalaw15 returns true and leaves its arguments as they were. -/
import Derived.Test.YtpgpjenfnbcclaaTypRow
set_option linter.unusedSimpArgs false
set_option linter.unusedVariables false
namespace Go.Proofs.Ytpgpjenfnbcclaa
open Go Go.Vm Go.ChangeShapes Go.WideShapes Go.ChangeAt Go.RowKit Go.Vm.Ip
set_option maxRecDepth 100000
theorem typesTexts_key {H : Type} (W : World) (ds : List (DataW H)) (h1 : ds.length = Try.f5.params.size) (h2 : ∀ (i : Nat) t x, Try.f5.params[i]? = some t → ds[i]? = some x → HasW Try.prog 8 t (dwD x)) : ∃ H', evF (pgW W) 5 ((ds.map dwD).map V.d) [] = some (.d (.bool true), H') := by
  have hp : Try.f5.params = #[9, 9] := Try.params5
  match ds, h1 with
  | [d0, d1], _ =>
    have hd0 := h2 0 9 d0 (by rw [hp]; rfl) rfl
    have hd1 := h2 1 9 d1 (by rw [hp]; rfl) rfl
    obtain ⟨a, e1, l1⟩ := str_of (m := 7) hd0
    obtain ⟨b, e2, _⟩ := str_of (m := 7) hd1
    exact ⟨[], by rw [pg_eq]; show evF _ 5 [.d (dwD d0), .d (dwD d1)] [] = _; rw [e1, e2]; exact Go.Vm.Typ.texts_law a b l1 []⟩
theorem typesTexts_lifted (os : Os) (started : os.Started) (H : Type) (enc : TypeId × Value → H) (F : Stop.Interp) :
    ReturnsInHanded {} Try.checked os 5 .any ((OpenSpec.ofChange Rows.typesTextsSpec).preRow enc Try.prog Try.f5 Rows.typesTextsRow.domain false Rows.typesTextsRow.laid) (((OpenSpec.ofChange Rows.typesTextsSpec).at F).post enc Try.prog Try.f5 false true false false) := by
  refine returnsInHanded_of_row (C := Try.checked) (s := OpenSpec.ofChange Rows.typesTextsSpec) own started (by kernel_rfl) Try.func5
    (witness_row_at (enc := enc) (C := Try.checked) false (World.laidAll Try.prog os []) #[.string ⟨#[]⟩, .string ⟨#[]⟩] (World.laidAll_os _ _ _) (by kernel_rfl) (by kernel_rfl) (by kernel_rfl)
      (OpenSpec.preRow_of_cond 8 (x := ([.lit (.string []), .lit (.string [])], [], [])) (by kernel_rfl) (by kernel_rfl) (fun k hk => by cases hk) (by kernel_rfl) (door_met os _))) ?_
  intro W base args ds gs before hval hW _ hcond hsz hL hsh _
  refine row_contract_w (s := Rows.typesTextsSpec) (m := 8) (tb := 4) (pg := pgW W) tOk mixed laidOut rfl (fun ds h => ?_) (fun t ht => ?_) (by kernel_rfl) Try.underlying4 hval hW globOk hsz (fun h1 h2 => typesTexts_key W ds h1 h2)
  · match ds, h with
    | [d0, d1], _ => rfl
  · rw [Try.params5] at ht
    simp only [List.mem_cons, List.not_mem_nil, or_false] at ht
    rcases ht with rfl | rfl
    · exact ⟨⟨by kernel_rfl, of_decide_eq_true (by kernel_rfl)⟩, by kernel_rfl⟩
    · exact ⟨⟨by kernel_rfl, of_decide_eq_true (by kernel_rfl)⟩, by kernel_rfl⟩
theorem typesTexts_holds : Rows.TypesTextsSaid :=
  OpenClaim.holds_of_cond 5 Try.f5 rfl rfl rfl rfl rfl rfl rfl ⟨rfl, rfl, rfl, rfl, rfl⟩ rfl rfl rfl rfl rfl (by kernel_rfl) Try.func5 (by kernel_rfl)
    (of_decide_eq_true (by kernel_rfl)) (by unfold Func.isWrapper; first | (rw [if_pos (by decide +kernel)]; kernel_rfl) | (rw [if_neg (by decide +kernel)]; exact ⟨rfl, rfl⟩))
    (fun os started H enc _ F => by rw [OpenClaim.pre_eq_preRow]; exact typesTexts_lifted os started H enc F)
end Go.Proofs.Ytpgpjenfnbcclaa
