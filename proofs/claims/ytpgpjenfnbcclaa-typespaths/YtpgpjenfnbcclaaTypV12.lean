import Derived.Test.YtpgpjenfnbcclaaTypV9
import Derived.Test.YtpgpjenfnbcclaaTypV7
set_option linter.unusedSimpArgs false
set_option linter.unusedVariables false
namespace Go.Vm.Typ
open Go Go.Vm Go.Proofs Go.Vm.Ip
open Go.Vm.Lex (nameB)
set_option maxRecDepth 10000
section
variable {fx : Nat → Option Obj} {F : Nat → Option VFun}
end
end Go.Vm.Typ
namespace Go.Vm.Typ
open Go Go.Vm Go.Proofs Go.Vm.Ip
open Go.Vm.Lex (nameB)
set_option maxRecDepth 10000
section
variable {fx : Nat → Option Obj} {F : Nat → Option VFun}
end
end Go.Vm.Typ
namespace Go.Vm.Typ
open Go Go.Vm Go.Proofs Go.Vm.Ip
open Go.Vm.Lex (nameB)
set_option maxRecDepth 10000
def RightOk (fx : Nat → Option Obj) : Prop := ∀ x : Its, Fine x → ∀ H, evF (pgL fx F2) n_ref14_Right [.d x.D] H = some (boo (chkB x), H)
section
variable {fx : Nat → Option Obj} (hR : RightOk fx)
include hR
end
section
variable {fx : Nat → Option Obj}
end
section
variable {fx : Nat → Option Obj} (hR : RightOk fx)
include hR
end
end Go.Vm.Typ
