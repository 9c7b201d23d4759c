/-
  No cell of these rows narrows 'for every input' (looked for: loops, veiled, ifaces, maps, wideKeys, modest, calm, conditions, laid).
  DERIVED. THE GIVEN ROWS OF THIS SEAT. 5 by the template 'for every input the law returns true; each argument reads behind the call as it read before'; 0 by the template 'total and deterministic' (their statements: YtpgpjenfnbcclaaTotals.lean).
  GIVEN WITH THE SEED: the statements are not yours to turn. If you find one false, say at which input.
  Laid BY PROGRAM, IN A SANDBOX (cutbox-rows.mjs): the forced cells as the released guide's own fill.sh prints them over the translation fa3ecd986d66f82b… (all of the seat's roots in one cut). By AI agents, Wed Nov 11 2026. No macro, syntax, notation, axiom, sorry.
-/
import Derived.Test.YtpgpjenfnbcclaaChecked
import GoSem.Claim
import GoSem.ClaimJoined
import GoSem.ClaimMapViews
import Derived.JoinedTies
import Derived.KernelRfl
namespace Go.Proofs.Ytpgpjenfnbcclaa
/- THE CELL 'sum', in the pinned program and in every row, IS THE sha256 OF THE DUMP (.gsa) THAT YtpgpjenfnbcclaaProg.lean LOADS. Nothing in Lean hashes anything: it is a label: what it is worth is what the hold of that sum in a sandbox is worth. -/
noncomputable def Try.pinned : Pinned := { name := "ytpgpjenfnbcclaa", sum := "fa3ecd986d66f82b23d64a7478ef2096f5b892b702155c7e902e8756e8d30416", checked := Try.checked }
namespace Rows
def none {H : Type} : Left H := { results := [], args := [] }

/-- 'patinalaw15.TypesParts': WHATEVER THE INPUT: true; the input reads as it did. -/
def typesPartsSpec : ChangeSpec := { name := "typesParts", fn := fun _ => fun
  | [d] => { results := [.lit (.bool true)], args := [d] }
  | _ => none }
def typesPartsRow : OpenClaim := { program := "ytpgpjenfnbcclaa", sum := "fa3ecd986d66f82b23d64a7478ef2096f5b892b702155c7e902e8756e8d30416", func := "patina/patinalaw15.TypesParts", spec := "typesParts", unfollowed := true, recurses := true, apart := false }
def TypesPartsSaid : Prop := typesPartsRow.holds Try.pinned (OpenSpec.ofChange typesPartsSpec)

/-- ITS FALSE NEIGHBOUR: 'it returns false'. Refute it at one input. -/
def typesPartsWrong : ChangeSpec := { name := "typesParts", fn := fun _ => fun
  | [d] => { results := [.lit (.bool false)], args := [d] }
  | _ => none }
def TypesPartsWrongFalsely : Prop := typesPartsRow.holds Try.pinned (OpenSpec.ofChange typesPartsWrong)

/-- 'patinalaw15.TypesPaths': WHATEVER THE INPUT: true; the input reads as it did. -/
def typesPathsSpec : ChangeSpec := { name := "typesPaths", fn := fun _ => fun
  | [d1, d2] => { results := [.lit (.bool true)], args := [d1, d2] }
  | _ => none }
def typesPathsRow : OpenClaim := { program := "ytpgpjenfnbcclaa", sum := "fa3ecd986d66f82b23d64a7478ef2096f5b892b702155c7e902e8756e8d30416", func := "patina/patinalaw15.TypesPaths", spec := "typesPaths", unfollowed := true, recurses := true, apart := false }
def TypesPathsSaid : Prop := typesPathsRow.holds Try.pinned (OpenSpec.ofChange typesPathsSpec)

/-- ITS FALSE NEIGHBOUR: 'it returns false'. Refute it at one input. -/
def typesPathsWrong : ChangeSpec := { name := "typesPaths", fn := fun _ => fun
  | [d1, d2] => { results := [.lit (.bool false)], args := [d1, d2] }
  | _ => none }
def TypesPathsWrongFalsely : Prop := typesPathsRow.holds Try.pinned (OpenSpec.ofChange typesPathsWrong)

/-- 'patinalaw15.TypesTexts': WHATEVER THE INPUT: true; the input reads as it did. -/
def typesTextsSpec : ChangeSpec := { name := "typesTexts", fn := fun _ => fun
  | [d1, d2] => { results := [.lit (.bool true)], args := [d1, d2] }
  | _ => none }
def typesTextsRow : OpenClaim := { program := "ytpgpjenfnbcclaa", sum := "fa3ecd986d66f82b23d64a7478ef2096f5b892b702155c7e902e8756e8d30416", func := "patina/patinalaw15.TypesTexts", spec := "typesTexts", unfollowed := true, recurses := true, apart := false }
def TypesTextsSaid : Prop := typesTextsRow.holds Try.pinned (OpenSpec.ofChange typesTextsSpec)

/-- ITS FALSE NEIGHBOUR: 'it returns false'. Refute it at one input. -/
def typesTextsWrong : ChangeSpec := { name := "typesTexts", fn := fun _ => fun
  | [d1, d2] => { results := [.lit (.bool false)], args := [d1, d2] }
  | _ => none }
def TypesTextsWrongFalsely : Prop := typesTextsRow.holds Try.pinned (OpenSpec.ofChange typesTextsWrong)

/-- 'patinalaw15.TypesTell': WHATEVER THE INPUT: true; the input reads as it did. -/
def typesTellSpec : ChangeSpec := { name := "typesTell", fn := fun _ => fun
  | [d1, d2] => { results := [.lit (.bool true)], args := [d1, d2] }
  | _ => none }
def typesTellRow : OpenClaim := { program := "ytpgpjenfnbcclaa", sum := "fa3ecd986d66f82b23d64a7478ef2096f5b892b702155c7e902e8756e8d30416", func := "patina/patinalaw15.TypesTell", spec := "typesTell", unfollowed := true, recurses := true, apart := false }
def TypesTellSaid : Prop := typesTellRow.holds Try.pinned (OpenSpec.ofChange typesTellSpec)

/-- ITS FALSE NEIGHBOUR: 'it returns false'. Refute it at one input. -/
def typesTellWrong : ChangeSpec := { name := "typesTell", fn := fun _ => fun
  | [d1, d2] => { results := [.lit (.bool false)], args := [d1, d2] }
  | _ => none }
def TypesTellWrongFalsely : Prop := typesTellRow.holds Try.pinned (OpenSpec.ofChange typesTellWrong)

/-- 'patinalaw15.TypesOwn': WHATEVER THE INPUT: true; the input reads as it did. -/
def typesOwnSpec : ChangeSpec := { name := "typesOwn", fn := fun _ => fun
  | [d1, d2] => { results := [.lit (.bool true)], args := [d1, d2] }
  | _ => none }
def typesOwnRow : OpenClaim := { program := "ytpgpjenfnbcclaa", sum := "fa3ecd986d66f82b23d64a7478ef2096f5b892b702155c7e902e8756e8d30416", func := "patina/patinalaw15.TypesOwn", spec := "typesOwn", unfollowed := true, recurses := true, apart := false }
def TypesOwnSaid : Prop := typesOwnRow.holds Try.pinned (OpenSpec.ofChange typesOwnSpec)

/-- ITS FALSE NEIGHBOUR: 'it returns false'. Refute it at one input. -/
def typesOwnWrong : ChangeSpec := { name := "typesOwn", fn := fun _ => fun
  | [d1, d2] => { results := [.lit (.bool false)], args := [d1, d2] }
  | _ => none }
def TypesOwnWrongFalsely : Prop := typesOwnRow.holds Try.pinned (OpenSpec.ofChange typesOwnWrong)

/- THE SECOND FORM. 'bulk': how many values and letters a reading holds, each counted each time it is reached (what is shared counts as often as it is met; a slice's spare places count too). A statement '..UptoSaid' is the law's where the arguments, and the package variables that the reading takes, are together of bulk at most 1048576: NARROWER than '..Said'. Prove '..Said' where nothing that the law and all that it calls make is longer than what came in: it says more and counts as full. Else prove '..UptoSaid'. A law counts once. -/
mutual
def uptoBulk {H : Type} : DataW H → Nat
  | .lit (.string bytes) => bytes.length + 1
  | .lit _ => 1
  | .nil => 1
  | .ptr d => uptoBulk d + 1
  | .slice elems spare => uptoBulkAll elems + uptoBulkAll spare + 1
  | .agg parts => uptoBulkAll parts + 1
  | .iface _ d => uptoBulk d + 1
  | .map entries => uptoBulkEntries entries + 1
  | .held _ => 1
def uptoBulkAll {H : Type} : List (DataW H) → Nat
  | [] => 0
  | d :: r => uptoBulk d + uptoBulkAll r
def uptoBulkEntries {H : Type} : List (Lit × DataW H) → Nat
  | [] => 0
  | x :: r => uptoBulkEntry x + uptoBulkEntries r
def uptoBulkEntry {H : Type} : Lit × DataW H → Nat
  | (.string bytes, d) => bytes.length + uptoBulk d + 1
  | (_, d) => uptoBulk d + 1
 end
def uptoSmall : (H : Type) → List (DataW H) → Bool := fun _ ds => decide (uptoBulkAll ds ≤ 1048576)
def OpenSpec.upto (s : _root_.Go.ChangeSpec) : _root_.Go.OpenSpec := { _root_.Go.OpenSpec.ofChange s with cond := some uptoSmall }

/-- 'patinalaw15.TypesParts', WHERE WHAT IT READS IS OF BULK AT MOST 1048576: true; the input reads as it did. -/
def typesPartsUptoRow : OpenClaim := { program := "ytpgpjenfnbcclaa", sum := "fa3ecd986d66f82b23d64a7478ef2096f5b892b702155c7e902e8756e8d30416", func := "patina/patinalaw15.TypesParts", spec := "typesParts", unfollowed := true, recurses := true, apart := false, narrowed := true }
def TypesPartsUptoSaid : Prop := typesPartsUptoRow.holds Try.pinned (OpenSpec.upto typesPartsSpec)

/-- 'patinalaw15.TypesPaths', WHERE WHAT IT READS IS OF BULK AT MOST 1048576: true; the input reads as it did. -/
def typesPathsUptoRow : OpenClaim := { program := "ytpgpjenfnbcclaa", sum := "fa3ecd986d66f82b23d64a7478ef2096f5b892b702155c7e902e8756e8d30416", func := "patina/patinalaw15.TypesPaths", spec := "typesPaths", unfollowed := true, recurses := true, apart := false, narrowed := true }
def TypesPathsUptoSaid : Prop := typesPathsUptoRow.holds Try.pinned (OpenSpec.upto typesPathsSpec)

/-- 'patinalaw15.TypesTexts', WHERE WHAT IT READS IS OF BULK AT MOST 1048576: true; the input reads as it did. -/
def typesTextsUptoRow : OpenClaim := { program := "ytpgpjenfnbcclaa", sum := "fa3ecd986d66f82b23d64a7478ef2096f5b892b702155c7e902e8756e8d30416", func := "patina/patinalaw15.TypesTexts", spec := "typesTexts", unfollowed := true, recurses := true, apart := false, narrowed := true }
def TypesTextsUptoSaid : Prop := typesTextsUptoRow.holds Try.pinned (OpenSpec.upto typesTextsSpec)

/-- 'patinalaw15.TypesTell', WHERE WHAT IT READS IS OF BULK AT MOST 1048576: true; the input reads as it did. -/
def typesTellUptoRow : OpenClaim := { program := "ytpgpjenfnbcclaa", sum := "fa3ecd986d66f82b23d64a7478ef2096f5b892b702155c7e902e8756e8d30416", func := "patina/patinalaw15.TypesTell", spec := "typesTell", unfollowed := true, recurses := true, apart := false, narrowed := true }
def TypesTellUptoSaid : Prop := typesTellUptoRow.holds Try.pinned (OpenSpec.upto typesTellSpec)

/-- 'patinalaw15.TypesOwn', WHERE WHAT IT READS IS OF BULK AT MOST 1048576: true; the input reads as it did. -/
def typesOwnUptoRow : OpenClaim := { program := "ytpgpjenfnbcclaa", sum := "fa3ecd986d66f82b23d64a7478ef2096f5b892b702155c7e902e8756e8d30416", func := "patina/patinalaw15.TypesOwn", spec := "typesOwn", unfollowed := true, recurses := true, apart := false, narrowed := true }
def TypesOwnUptoSaid : Prop := typesOwnUptoRow.holds Try.pinned (OpenSpec.upto typesOwnSpec)

end Rows
end Go.Proofs.Ytpgpjenfnbcclaa
