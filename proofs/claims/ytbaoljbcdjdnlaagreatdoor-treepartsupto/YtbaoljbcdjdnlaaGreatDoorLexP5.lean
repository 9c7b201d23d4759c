set_option linter.unusedSimpArgs false
set_option linter.unusedVariables false
namespace Go.Vm.Lex
def isL (c : UInt8) : Bool := decide (97 ≤ c.toNat ∧ c.toNat ≤ 122) || decide (65 ≤ c.toNat ∧ c.toNat ≤ 90) || decide (c.toNat = 95)
def isD (c : UInt8) : Bool := decide (48 ≤ c.toNat ∧ c.toNat ≤ 57)
def isLD (c : UInt8) : Bool := isL c || isD c
def wordsL : List (List UInt8) := [[102, 110], [115, 116, 114, 117, 99, 116], [101, 110, 117, 109], [108, 101, 116], [109, 117, 116], [119, 104, 105, 108, 101], [105, 102], [101, 108, 115, 101], [109, 97, 116, 99, 104], [114, 101, 116, 117, 114, 110], [98, 114, 101, 97, 107], [99, 111, 110, 116, 105, 110, 117, 101], [116, 114, 117, 101], [102, 97, 108, 115, 101], [105, 54, 52], [98, 111, 111, 108], [66, 111, 120]]
def wordB (s : List UInt8) : Bool := decide (s ∈ wordsL)
def hd0 : List UInt8 → UInt8
  | [] => 0
  | c :: _ => c
def speltB (s : List UInt8) : Bool := decide (s ≠ []) && decide (s ≠ [95]) && !isD (hd0 s) && s.all isLD
def nameB (s : List UInt8) : Bool := speltB s && decide (s.length ≤ 64) && !wordB s
end Go.Vm.Lex
