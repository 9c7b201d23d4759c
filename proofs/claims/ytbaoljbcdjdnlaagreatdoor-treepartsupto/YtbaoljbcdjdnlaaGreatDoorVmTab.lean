import Derived.Test.YtbaoljbcdjdnlaaGreatDoorVmPrimCut
import Derived.Test.YtbaoljbcdjdnlaaGreatDoorVmArg
set_option linter.unusedSimpArgs false
set_option linter.unusedVariables false
namespace Go.Vm
open Go.ChangeShapes Go.WideShapes Go.ChangeAt Go.RowKit
section
variable {P : Program}
theorem RepDs_ints {C : Nat → List Value} {k : IntKind} : ∀ {zs : List Int} {vs : List Value}, RepDs C (zs.map (D.int k)) vs → vs = zs.map (Value.int k)
  | [], vs, h => by simpa [RepDs] using h
  | z :: r, vs, h => by
    simp only [List.map_cons, RepDs] at h
    obtain ⟨y, ys, rfl, _, h2, h3⟩ := h
    simp only [RepCs, List.cons.injEq, and_true] at h2
    rw [h2, RepDs_ints h3]; rfl
theorem laid_tab {w : World} {l : List (String × DataW Unit)} (h : laidMet P l w) {n : String} {d : DataW Unit} (hm : (n, d) ∈ l) {g : Nat} (hg : P.globalNamed n = some g) {t : TypeId} (ht : (P.globals[g]?).map (·.type) = some t) {m : Nat} (hp : plainT P m t = true) {k : IntKind} {zs : List Int} (hd : (dwD d).cells = zs.map (D.int k)) :
    ∃ T fz, w.heap[g]? = some (.cells (zs.map (Value.int k)).toArray T fz) := by
  obtain ⟨ps, hl, _⟩ := h
  obtain ⟨g', t', cs, fuel, p, h1, h2, h3, h4⟩ := laidVars_mem hl hm
  obtain rfl := Option.some.inj (hg.symm.trans h1)
  obtain rfl := Option.some.inj (ht.symm.trans h2)
  obtain ⟨_, h5⟩ := trod_D fuel m t _ _ hp h4
  have h6 := RepDs_cells h5
  rw [hd] at h6
  have h7 := RepDs_ints h6
  unfold World.var? at h3
  rw [hg] at h3
  simp only [Option.bind_some] at h3
  split at h3
  · rename_i c' t' f' hc
    cases h3
    refine ⟨t', f', ?_⟩
    rw [hc, ← h7]
  · cases h3
theorem tab_at {w : World} {cx : Cx} {n : String} {g : Nat} {k : IntKind} {zs : List Int} {l : List Nat} (hcx : cx.fx = fixOf w l) (hm : g ∈ l) (hg : P.globalNamed n = some g) (h : ∃ T fz, w.heap[g]? = some (.cells (zs.map (Value.int k)).toArray T fz)) : TabAt P cx n k zs := by
  obtain ⟨T, fz, h⟩ := h
  refine ⟨g, T, fz, hg, ?_⟩
  rw [hcx]
  unfold fixOf
  rw [if_pos hm]
  exact h
end
end Go.Vm
