import Derived.Test.YtpgpjenfnbcclaaVmPrimCut
import Derived.Test.YtpgpjenfnbcclaaVmFrame
set_option linter.unusedSimpArgs false
set_option linter.unusedVariables false
namespace Go.Vm
def PrimOk (F : List V → Hp → Option (V × Hp)) : Prop := ∀ a h r h', F a h = some (r, h') → undL 0 a = true ∧ r.und 0 = true ∧ h' = h ∧ ∀ H, F a H = some (r, H)
end Go.Vm
namespace Go.Vm
def primClone (a : List V) (h : Hp) : Option (V × Hp) := match a with
  | [.d (.sl l)] => if roomy l.length 32 ∧ l.all (fun x => x.cells.length == 2) = true then some (.d (.sl l), h) else none
  | _ => none
end Go.Vm
