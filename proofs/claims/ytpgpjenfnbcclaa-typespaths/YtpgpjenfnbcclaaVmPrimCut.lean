import Derived.Test.YtpgpjenfnbcclaaVmSized
import Derived.Below
import Derived.Lib.ItoaNum
import Derived.Lib.Join
import Derived.Lib.Fields
import Derived.Sort.Grow
import Derived.Lib.LaidTab
import Derived.Deep.Draws
import Derived.Lib.Bytealg
import Derived.Lib.LastIndexByte
import Derived.Lib.ParseIntB
import Derived.Lib.Strings
import Derived.Lib.CutLaws
set_option linter.unusedSimpArgs false
set_option linter.unusedVariables false
namespace Go.Vm
open Go.RowKit
section
variable {P : Program} {cx : Cx} {g : Gh} {H : Hp} {w w' : World}
theorem Inv.below (hI : Inv cx g H w) (h : Below w.heap.size w w') : Inv cx g H w' ∧ Ext H.length g H w g H w' := by
  have hk : Keep H.length g H g H := Keep.refl _ _ _
  refine ⟨⟨hI.inj, fun i b c hj => ⟨(hI.dom i b c hj).1, Nat.lt_of_lt_of_le (hI.dom i b c hj).2 h.size⟩, fun i b c o hj ho => ?_, fun b hb => ?_, hI.und, hI.glob, hI.fix.mono fun b hb hn => ⟨h.block b hb, hn⟩⟩, ⟨h.os, h.tape, h.output, h.size, fun b hb _ => ⟨h.block b hb, rfl⟩, hk, fun i b c hj _ => ⟨i, c, hj⟩, fun _ _ h => h, Nat.le_refl _⟩⟩
  · have hd := hI.dom i b c hj
    exact (hI.ob i b c o hj ho).ext hk.w (h.block b hd.2) rfl (by rintro c' rfl; exact hI.und i c' hd.1 ho)
  · obtain ⟨cur, e, fz, h1, h2⟩ := hI.imm b hb
    exact ⟨cur, e, fz, by rw [h.block b (Array.getElem?_eq_some_iff.1 h1).1]; exact h1, h2⟩
theorem var_of (hI : Inv cx g H w) {n : String} {i : Nat} (hg : P.globalNamed n = some i) {cs : Array Value} {t : TypeId} {fz : Nat × Nat} (hf : cx.fx i = some (.cells cs t fz)) : w.var? P n = some cs := by
  unfold World.var?
  rw [hg]
  simp only [Option.bind_some, (hI.fix i _ hf).1]
end
end Go.Vm
namespace Go.Vm
open Go.RowKit
section
variable {P : Program} {cx : Cx}
def TabAt (P : Program) (cx : Cx) (name : String) (k : IntKind) (zs : List Int) : Prop := ∃ i t fz, P.globalNamed name = some i ∧ cx.fx i = some (.cells (zs.map fun z => Value.int k z).toArray t fz)
theorem TabAt.is {name : String} {k : IntKind} {zs : List Int} (h : TabAt P cx name k zs) {g : Gh} {H : Hp} {w : World} (hI : Inv cx g H w) : Lib.TabIs P w name k zs := by
  obtain ⟨i, t, fz, h1, h2⟩ := h
  exact var_of hI h1 h2
end
end Go.Vm
namespace Go.Vm
open Go.RowKit
section
variable {P : Program} {cx : Cx}
def ErrAt (cx : Cx) (i : Nat) : Prop := ∃ ev t fz, cx.fx i = some (.cells #[ev] t fz) ∧ (ev = .nilIface ∨ ∃ te pe, ev = .iface te pe)
theorem ErrAt.cell {i : Nat} (h : ErrAt cx i) {g : Gh} {H : Hp} {w : World} (hI : Inv cx g H w) : ∃ ev, w.cell? ⟨i, 0, none⟩ = some ev ∧ (ev = .nilIface ∨ ∃ te pe, ev = .iface te pe) := by
  obtain ⟨ev, t, fz, h1, h2⟩ := h
  refine ⟨ev, ?_, h2⟩
  unfold World.cell?
  simp [(hI.fix i _ h1).1]
end
end Go.Vm
namespace Go.Vm
open Go.RowKit
section
variable {P : Program} {cx : Cx}
end
end Go.Vm
