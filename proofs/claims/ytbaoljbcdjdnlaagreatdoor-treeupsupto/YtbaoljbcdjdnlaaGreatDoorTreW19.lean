import Derived.Test.YtbaoljbcdjdnlaaGreatDoorTreW18
import Derived.Test.YtbaoljbcdjdnlaaGreatDoorTreP10
/- The part of a tree below a node. -/
namespace Go.Vm.Tre
open Go.Vm.Tp
set_option maxRecDepth 10000
set_option linter.unusedSimpArgs false
theorem toArg_row {H : Hp} {id sz : Nat} {l : List D} {n : Nat} (h : H[id]? = some (.row sz l)) (hl : l.length = n) : toArg H (.agg [.row id n]) = .d (.agg [.sl l]) := by
  simp [toArg, toD, toDs, toD1, h, hl]
section
variable {fx : Nat → Option Obj} (H : Hp)
end
end Go.Vm.Tre
