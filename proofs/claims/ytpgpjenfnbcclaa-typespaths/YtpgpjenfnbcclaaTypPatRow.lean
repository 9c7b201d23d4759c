/- For all arguments the law TypesPaths of package patinalaw15 returns true and leaves its arguments as they were. -/
import Derived.Test.YtpgpjenfnbcclaaTypRow
set_option linter.unusedSimpArgs false
set_option linter.unusedVariables false
namespace Go.Proofs.Ytpgpjenfnbcclaa
open Go Go.Vm Go.ChangeShapes Go.WideShapes Go.ChangeAt Go.RowKit Go.Vm.Ip
set_option maxRecDepth 100000
theorem typesPaths_key {H : Type} (W : World) (ds : List (DataW H)) (h1 : ds.length = Try.f4.params.size) (h2 : ∀ (i : Nat) t x, Try.f4.params[i]? = some t → ds[i]? = some x → HasW Try.prog 8 t (dwD x)) : ∃ H', evF (pgW W) 4 ((ds.map dwD).map V.d) [] = some (.d (.bool true), H') := by
  have hp : Try.f4.params = #[29, 27] := Try.params4
  match ds, h1 with
  | [d0, d1], _ =>
    have hd0 := h2 0 29 d0 (by rw [hp]; rfl) rfl
    have hd1 := h2 1 27 d1 (by rw [hp]; rfl) rfl
    obtain ⟨x, s, k, p, e1, h1, l2, l3, h4⟩ := case_of hd0
    obtain ⟨q, e2, l5, h6⟩ := path_of (m := 6) hd1
    exact ⟨[], by rw [pg_eq]; show evF _ 4 [.d (dwD d0), .d (dwD d1)] [] = _; rw [e1, e2]; exact Go.Vm.Typ.paths_law x h1 s l2 k p q l3 l5 h4 h6 []⟩
theorem typesPaths_lifted (os : Os) (started : os.Started) (H : Type) (enc : TypeId × Value → H) (F : Stop.Interp) :
    ReturnsInHanded {} Try.checked os 4 .any ((OpenSpec.ofChange Rows.typesPathsSpec).preRow enc Try.prog Try.f4 Rows.typesPathsRow.domain false Rows.typesPathsRow.laid) (((OpenSpec.ofChange Rows.typesPathsSpec).at F).post enc Try.prog Try.f4 false true false false) := by
  refine returnsInHanded_of_row (C := Try.checked) (s := OpenSpec.ofChange Rows.typesPathsSpec) own started (by kernel_rfl) Try.func4
    (witness_row_at (enc := enc) (C := Try.checked) false (World.laidAll Try.prog os []) #[.agg #[.slice none 0 0, .slice none 0 0, .slice none 0 0, .string ⟨#[]⟩, .int .i64 0, .slice none 0 0], .slice none 0 0] (World.laidAll_os _ _ _) (by kernel_rfl) (by kernel_rfl) (by kernel_rfl)
      (OpenSpec.preRow_of_cond 8 (x := ([.agg [.agg [.nil, .nil, .nil], .lit (.string []), .lit (.int .i64 0), .nil], .nil], [], [])) (by kernel_rfl) (by kernel_rfl) (fun k hk => by cases hk) (by kernel_rfl) (door_met os _))) ?_
  intro W base args ds gs before hval hW _ hcond hsz hL hsh _
  refine row_contract_w (s := Rows.typesPathsSpec) (m := 8) (tb := 4) (pg := pgW W) tOk mixed laidOut rfl (fun ds h => ?_) (fun t ht => ?_) (by kernel_rfl) Try.underlying4 hval hW globOk hsz (fun h1 h2 => typesPaths_key W ds h1 h2)
  · match ds, h with
    | [d0, d1], _ => rfl
  · rw [Try.params4] at ht
    simp only [List.mem_cons, List.not_mem_nil, or_false] at ht
    rcases ht with rfl | rfl
    · exact ⟨⟨by kernel_rfl, of_decide_eq_true (by kernel_rfl)⟩, by kernel_rfl⟩
    · exact ⟨⟨by kernel_rfl, of_decide_eq_true (by kernel_rfl)⟩, by kernel_rfl⟩
theorem typesPaths_holds : Rows.TypesPathsSaid :=
  OpenClaim.holds_of_cond 4 Try.f4 rfl rfl rfl rfl rfl rfl rfl ⟨rfl, rfl, rfl, rfl, rfl⟩ rfl rfl rfl rfl rfl (by kernel_rfl) Try.func4 (by kernel_rfl)
    (of_decide_eq_true (by kernel_rfl)) (by unfold Func.isWrapper; first | (rw [if_pos (by decide +kernel)]; kernel_rfl) | (rw [if_neg (by decide +kernel)]; exact ⟨rfl, rfl⟩))
    (fun os started H enc _ F => by rw [OpenClaim.pre_eq_preRow]; exact typesPaths_lifted os started H enc F)
end Go.Proofs.Ytpgpjenfnbcclaa
