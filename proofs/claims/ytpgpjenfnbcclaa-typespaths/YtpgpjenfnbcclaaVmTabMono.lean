import Derived.Test.YtpgpjenfnbcclaaVmFix
set_option linter.unusedSimpArgs false
set_option linter.unusedVariables false
namespace Go.Vm
theorem fnAt_tbl {cx : Cx} {t t' : Nat → Option VFun} (h : ∀ f e, t f = some e → t' f = some e) : ∀ n, OLe (fnAt ⟨cx, t⟩ n) (fnAt ⟨cx, t'⟩ n) ∧ LLe (lpAt ⟨cx, t⟩ n) (lpAt ⟨cx, t'⟩ n)
  | 0 => ⟨fun _ _ _ _ h => (nomatch ((fnAt_zero _ _ _ _).symm.trans h)), fun _ _ _ _ h => (nomatch ((lpAt_zero _ _ _ _).symm.trans h))⟩
  | n + 1 => by
    obtain ⟨h1, h2⟩ := fnAt_tbl (cx := cx) h n
    refine ⟨fun f a hh r hr => ?_, fun k b s r hr => ?_⟩
    · rw [fnAt_succ, stepF] at hr ⊢
      split at hr
      · cases hr
      · rename_i Fp ht
        rw [show (⟨cx, t'⟩ : Pg).tbl f = some (.prim Fp) from h _ _ ht]
        exact hr
      · rename_i vf ht
        rw [show (⟨cx, t'⟩ : Pg).tbl f = some (.code vf) from h _ _ ht]
        split at hr
        · rename_i hl
          show (if a.length = vf.np then _ else none) = some r
          rw [if_pos hl]
          refine bare_le (fun h r hr => ?_) hr
          cases hx : evC cx (fnAt ⟨cx, t⟩ n) (lpAt ⟨cx, t⟩ n) vf.body ⟨enterE a, h, h.length⟩ with
          | none => rw [hx] at hr; cases hr
          | some q => rw [hx] at hr; rw [evC_mono h1 h2 hx]; exact hr
        · cases hr
    · rw [lpAt_succ] at hr ⊢; exact evC_mono h1 h2 hr
theorem evF_tbl {cx : Cx} {t t' : Nat → Option VFun} (h : ∀ f e, t f = some e → t' f = some e) {f : Nat} {a : List V} {H : Hp} {r : V × Hp} (he : evF ⟨cx, t⟩ f a H = some r) : evF ⟨cx, t'⟩ f a H = some r := by
  obtain ⟨n, hn⟩ := evF_iff.1 he
  exact evF_iff.2 ⟨n, (fnAt_tbl h n).1 _ _ _ _ hn⟩
end Go.Vm
