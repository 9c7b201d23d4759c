import Derived.Test.YtnhoonglfejdeaaDoorVmRow
import Derived.Below
/- Library functions by contracts that are known of them. -/
namespace Go.Vm
open Go.RowKit
section
variable {P : Program} {cx : Cx} {g : Gh} {H : Hp} {w w' : World}
/-- Behind a call that leaves what was there as it was. -/
theorem Inv.below (hI : Inv cx g H w) (h : Below w.heap.size w w') : Inv cx g H w' ∧ Ext H.length g H w g H w' := by
  have hk : Keep H.length g H g H := Keep.refl _ _ _
  refine ⟨⟨hI.inj, fun i b c hj => ⟨(hI.dom i b c hj).1, Nat.lt_of_lt_of_le (hI.dom i b c hj).2 h.size⟩, fun i b c o hj ho => ?_, fun b hb => ?_, hI.und, hI.glob, hI.fix.mono fun b hb hn => ⟨h.block b hb, hn⟩⟩, ⟨h.os, h.tape, h.output, h.size, fun b hb _ => ⟨h.block b hb, rfl⟩, hk, fun i b c hj _ => ⟨i, c, hj⟩, fun _ _ h => h, Nat.le_refl _⟩⟩
  · have hd := hI.dom i b c hj
    exact (hI.ob i b c o hj ho).ext hk.w (h.block b hd.2) rfl (by rintro c' rfl; exact hI.und i c' hd.1 ho)
  · obtain ⟨cur, e, fz, h1, h2⟩ := hI.imm b hb
    exact ⟨cur, e, fz, by rw [h.block b (Array.getElem?_eq_some_iff.1 h1).1]; exact h1, h2⟩
/-- A function that hands back data and leaves memory as it was. -/
theorem prim_of {f : Nat} {args : List V} {r : D} (hfn : ∃ fn, P.funcs[f]? = some fn ∧ fn.body.isNone = false ∧ (fn.name == "runtime.NumGoroutine") = false)
    (hc : ∀ g w (cargs : Array Value), Inv cx g H w → RepTs g H args cargs.toList → Calls P f cargs w fun e w' => ∃ x, e = .returned x ∧ RepD g.C r x ∧ Below w.heap.size w w') : FnSpec P cx f args H (.d r) H := by
  refine ⟨hfn, fun g w cargs hI ra ua => (hc g w cargs hI ra).mono fun e w' he => ?_⟩
  obtain ⟨x, h1, h2, h3⟩ := he
  obtain ⟨k1, k2⟩ := hI.below h3
  exact ⟨g, x, h1, k1, by simpa only [Rep] using h2, rfl, k2⟩
theorem below_drawn (n : Nat) : Below w.heap.size w { w with drawn := n } := ⟨rfl, rfl, rfl, Nat.le_refl _, fun _ _ => rfl⟩
/-- A variable that is known whole. -/
theorem var_of (hI : Inv cx g H w) {n : String} {i : Nat} (hg : P.globalNamed n = some i) {cs : Array Value} {t : TypeId} {fz : Nat × Nat} (hf : cx.fx i = some (.cells cs t fz)) : w.var? P n = some cs := by
  unfold World.var?
  rw [hg]
  simp only [Option.bind_some, (hI.fix i _ hf).1]
theorem args_str {s : List UInt8} {r : List V} {vs : List Value} (h : RepTs g H (.d (.str s) :: r) vs) : ∃ ys, vs = .string ⟨s.toArray⟩ :: ys ∧ RepTs g H r ys := by
  simp only [RepTs] at h
  obtain ⟨y, ys, rfl, h1, h2⟩ := h
  simp only [Rep, RepD, RepCs, List.cons.injEq, and_true] at h1
  exact ⟨ys, by rw [h1], h2⟩
theorem args_int {k : IntKind} {n : Int} {r : List V} {vs : List Value} (h : RepTs g H (.d (.int k n) :: r) vs) : ∃ ys, vs = .int k n :: ys ∧ RepTs g H r ys := by
  simp only [RepTs] at h
  obtain ⟨y, ys, rfl, h1, h2⟩ := h
  simp only [Rep, RepD, RepCs, List.cons.injEq, and_true] at h1
  exact ⟨ys, by rw [h1], h2⟩
theorem args_nil {vs : List Value} (h : RepTs g H [] vs) : vs = [] := by simpa only [RepTs] using h
end
end Go.Vm
