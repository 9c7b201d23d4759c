import Derived.Test.YtpgpjenfnbcclaaTypTbl
import Derived.Test.YtpgpjenfnbcclaaVmClone
import Derived.Test.YtpgpjenfnbcclaaVmHand
set_option linter.unusedSimpArgs false
set_option linter.unusedVariables false
namespace Go.Vm.Typ
open Go Go.Vm Go.Proofs
set_option maxRecDepth 100000
noncomputable def c50 : Code := (Try.f50.body).getD .skip
theorem b50 : Try.f50.body = some c50 := by kernel_rfl
noncomputable def y50 : Code := cR c50
noncomputable def q50 : Code := cL (cL y50)
theorem s50 : c50 = .seq (cL c50) (.seq (.seq (.region (cId q50) (cOps q50) false) (.cond (.tmp 4) (cA (cR (cL y50))) .skip)) (cR y50)) := by kernel_rfl
def n50 : Ann := ⟨fun _ => [], fun _ => []⟩
theorem t50a : tr Try.prog n50 (cL c50) = some (vL B50) := by kernel_rfl
theorem t50b : tr Try.prog n50 (cA (cR (cL y50))) = some (vA (vR (vL (vR B50)))) := by kernel_rfl
theorem t50c : tr Try.prog n50 (cR y50) = some (vR (vR B50)) := by kernel_rfl
theorem z50 : (cOps q50).size = 2 := by kernel_rfl
theorem o50a : ((cOps q50)[0]?).map (fun o => (o.op, o.dst, o.guard)) = some (.move (.tmp 0), some 3, none) := by kernel_rfl
theorem o50b : ((cOps q50)[1]?).map (fun o => (o.op, o.dst, o.guard)) = some (.binOp .eql 55 (.tmp 3) (.const (.slice none 0 0)) 55, some 4, none) := by kernel_rfl
theorem u50 : Try.prog.underlying 55 = some (.slice 59) := by kernel_rfl
theorem r50 : trRes Try.prog Try.f50.results.toList = some [.tmp 2] := by kernel_rfl
theorem f50 : Try.prog.funcs[50]? = some Try.f50 := by kernel_rfl
theorem mixed : Try.prog.follows .mixedOrders = true := by kernel_rfl
theorem clone_spec (cx : Cx) : ∀ args H r H', primClone args H = some (r, H') → FnSpec Try.prog cx 50 args H r H' := by
  intro args H r H' h
  unfold primClone at h
  split at h
  · rename_i l
    split at h
    · rename_i hc
      simp only [Option.some.injEq, Prod.mk.injEq] at h
      obtain ⟨rfl, rfl⟩ := h
      obtain ⟨hroom, hall⟩ := hc
      refine fnspec_bare (N := 8) (rs := [.tmp 2]) f50 b50 (by kernel_rfl) r50 rfl (by kernel_rfl) (Nat.le_of_ble_eq_true rfl) rfl rfl ?_ H
      intro g w a ok
      have hT := tblNone Try.prog cx
      rw [s50]
      apply wp_seq
      refine chunk (pg := ⟨cx, fun _ => none⟩) hT mixed t50a (by kernel_rfl) ok (R := fun x e' H' => x = .nrm ∧ e' = [(2, .nils), (0, .d (.sl l))] ∧ H' = []) ?_ ?_
      · refine run ⟨?_⟩
        exact rfl
      rintro x e' H' g1 a1 w1 ⟨rfl, rfl, rfl⟩ ok1 ext1
      show (Code.seq _ _).wp _ _ _ _
      apply wp_seq
      apply wp_seq
      apply wp_region
      rw [z50, range2]
      have hr0 := (ok1.env.2 0 (by decide)).1
      refine op_put o50a ok1 (v := .d (.sl l)) (fun o ho => run_mv ho) (by decide) hr0 rfl fun ok2 => ?_
      have hr3 := (ok2.env.2 3 (by decide)).1
      obtain ⟨ad, cap, hx, hcap, hlz⟩ := sl_parts hr3
      refine op_put o50b ok2 (v := .d (.bool ad.isNone)) (fun o ho => run_nilsl u50 hx ho) (by decide) (bool_rep _) rfl fun ok3 => ?_
      show (Code.cond _ _ _).wp _ _ _ _
      have hc := cond_val ok3 (i := 4) (b := ad.isNone) (by decide) rfl
      refine Go.wp_cond_split hc (fun hn => ?_) (fun hn => ?_)
      · have hl : l = [] := by
          rcases hlz with h | ⟨b, off, sz, us, h, _⟩
          · exact h
          · rw [h] at hn; cases hn
        refine chunk (pg := ⟨cx, fun _ => none⟩) hT mixed t50b (by kernel_rfl) ok3 (R := fun x e' H' => x = .ret ∧ getE e' 2 = .nils ∧ H' = []) ?_ ?_
        · refine run ⟨?_⟩
          exact rfl
        rintro x e' H' g2 a2 w2 ⟨rfl, he, rfl⟩ ok4 ext4
        refine ⟨.inr rfl, g2, _, [.nils], ok4, ext1.trans ext4 (Nat.le_refl _), ?_, rfl, by rw [hl]; rfl⟩
        simp only [resVs, resV, he]
      · apply wp_skip
        show Code.wp _ _ _ _ _
        have h3 : (l.all fun y => y.cells.length == 2) = true ∧ 0 < 2 := ⟨hall, by decide⟩
        by_cases hl : l = []
        · refine chunk (pg := ⟨cx, fun _ => none⟩) hT mixed t50c (by kernel_rfl) ok3 (R := fun x e' H' => x = .ret ∧ getE e' 2 = .nile ∧ H' = []) ?_ ?_
          · repeat' (first | refine run ⟨?_⟩ | refine And.intro h3 ?_ | refine And.intro (fun _ => ?_) (fun h => absurd hl h) | fail)
            exact rfl
          rintro x e' H' g2 a2 w2 ⟨rfl, he, rfl⟩ ok4 ext4
          refine ⟨.inr rfl, g2, _, [.nile], ok4, ext1.trans ext4 (Nat.le_refl _), ?_, rfl, by rw [hl]; rfl⟩
          simp only [resVs, resV, he]
        · refine chunk (pg := ⟨cx, fun _ => none⟩) hT mixed t50c (by kernel_rfl) ok3 (R := fun x e' H' => x = .ret ∧ getE e' 2 = .row 0 l.length ∧ H' = [.row 2 l]) ?_ ?_
          · repeat' (first | refine run ⟨?_⟩ | refine And.intro h3 ?_ | refine And.intro (fun h => absurd h hl) (fun _ => And.intro hroom ?_) | fail)
            exact rfl
          rintro x e' H' g2 a2 w2 ⟨rfl, he, rfl⟩ ok4 ext4
          refine ⟨.inr rfl, g2, _, [.row 0 l.length], ok4, ext1.trans ext4 (Nat.le_refl _), ?_, ?_, ?_⟩
          · simp only [resVs, resV, he]
          · show undL 0 [toArg [.row 2 l] (.row 0 l.length)] = true
            simp [toArg, toD, toD1]
          · show oneOf [toArg [.row 2 l] (.row 0 l.length)] = _
            simp [toArg, toD, toD1]
    · cases h
  · cases h
end Go.Vm.Typ
