/- For all arguments the law TypesParts of package patinalaw15 returns true and leaves its arguments as they were. -/
import Derived.Test.YtpgpjenfnbcclaaTypRow
set_option linter.unusedSimpArgs false
set_option linter.unusedVariables false
namespace Go.Proofs.Ytpgpjenfnbcclaa
open Go Go.Vm Go.ChangeShapes Go.WideShapes Go.ChangeAt Go.RowKit Go.Vm.Ip
set_option maxRecDepth 100000
theorem typesParts_key {H : Type} (W : World) (ds : List (DataW H)) (h1 : ds.length = Try.f3.params.size) (h2 : ∀ (i : Nat) t x, Try.f3.params[i]? = some t → ds[i]? = some x → HasW Try.prog 8 t (dwD x)) : ∃ H', evF (pgW W) 3 ((ds.map dwD).map V.d) [] = some (.d (.bool true), H') := by
  have hp : Try.f3.params = #[29] := Try.params3
  match ds, h1 with
  | [d0], _ =>
    have hd0 := h2 0 29 d0 (by rw [hp]; rfl) rfl
    obtain ⟨x, s, k, p, e1, h1, l2, l3, h4⟩ := case_of hd0
    exact ⟨[], by rw [pg_eq]; show evF _ 3 [.d (dwD d0)] [] = _; rw [e1]; exact Go.Vm.Typ.parts_law x h1 s l2 k p l3 h4 []⟩
theorem typesParts_lifted (os : Os) (started : os.Started) (H : Type) (enc : TypeId × Value → H) (F : Stop.Interp) :
    ReturnsInHanded {} Try.checked os 3 .any ((OpenSpec.ofChange Rows.typesPartsSpec).preRow enc Try.prog Try.f3 Rows.typesPartsRow.domain false Rows.typesPartsRow.laid) (((OpenSpec.ofChange Rows.typesPartsSpec).at F).post enc Try.prog Try.f3 false true false false) := by
  refine returnsInHanded_of_row (C := Try.checked) (s := OpenSpec.ofChange Rows.typesPartsSpec) own started (by kernel_rfl) Try.func3
    (witness_row_at (enc := enc) (C := Try.checked) false (World.laidAll Try.prog os []) #[.agg #[.slice none 0 0, .slice none 0 0, .slice none 0 0, .string ⟨#[]⟩, .int .i64 0, .slice none 0 0]] (World.laidAll_os _ _ _) (by kernel_rfl) (by kernel_rfl) (by kernel_rfl)
      (OpenSpec.preRow_of_cond 8 (x := ([.agg [.agg [.nil, .nil, .nil], .lit (.string []), .lit (.int .i64 0), .nil]], [], [])) (by kernel_rfl) (by kernel_rfl) (fun k hk => by cases hk) (by kernel_rfl) (door_met os _))) ?_
  intro W base args ds gs before hval hW _ hcond hsz hL hsh _
  refine row_contract_w (s := Rows.typesPartsSpec) (m := 8) (tb := 4) (pg := pgW W) tOk mixed laidOut rfl (fun ds h => ?_) (fun t ht => ?_) (by kernel_rfl) Try.underlying4 hval hW globOk hsz (fun h1 h2 => typesParts_key W ds h1 h2)
  · match ds, h with
    | [d0], _ => rfl
  · rw [Try.params3] at ht
    simp only [List.mem_cons, List.not_mem_nil, or_false] at ht
    subst ht
    · exact ⟨⟨by kernel_rfl, of_decide_eq_true (by kernel_rfl)⟩, by kernel_rfl⟩
theorem typesParts_holds : Rows.TypesPartsSaid :=
  OpenClaim.holds_of_cond 3 Try.f3 rfl rfl rfl rfl rfl rfl rfl ⟨rfl, rfl, rfl, rfl, rfl⟩ rfl rfl rfl rfl rfl (by kernel_rfl) Try.func3 (by kernel_rfl)
    (of_decide_eq_true (by kernel_rfl)) (by unfold Func.isWrapper; first | (rw [if_pos (by decide +kernel)]; kernel_rfl) | (rw [if_neg (by decide +kernel)]; exact ⟨rfl, rfl⟩))
    (fun os started H enc _ F => by rw [OpenClaim.pre_eq_preRow]; exact typesParts_lifted os started H enc F)
end Go.Proofs.Ytpgpjenfnbcclaa
