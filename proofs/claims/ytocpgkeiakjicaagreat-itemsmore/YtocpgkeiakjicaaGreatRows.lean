/-
  No cell of these rows narrows 'for every input' (looked for: loops, veiled, ifaces, maps, wideKeys, modest, calm, conditions, laid).
  DERIVED. THE GIVEN ROWS OF THIS SEAT. 4 by the template 'for every input the law returns true; each argument reads behind the call as it read before'; 0 by the template 'total and deterministic' (their statements: YtocpgkeiakjicaaGreatTotals.lean).
  GIVEN WITH THE SEED: the statements are not yours to turn. If you find one false, say at which input.
  Laid BY PROGRAM, IN A SANDBOX (cutbox-rows.mjs): the forced cells as the released guide's own fill.sh prints them over the translation 55c6da9cc8293f29… (all of the seat's roots in one cut). By AI agents, Wed Nov 11 2026. No macro, syntax, notation, axiom, sorry.
-/
import Derived.Test.YtocpgkeiakjicaaGreatChecked
import GoSem.Claim
import GoSem.ClaimJoined
import GoSem.ClaimMapViews
import Derived.JoinedTies
import Derived.KernelRfl
namespace Go.Proofs.YtocpgkeiakjicaaGreat
/- THE CELL 'sum', in the pinned program and in every row, IS THE sha256 OF THE DUMP (.gsa) THAT YtocpgkeiakjicaaGreatProg.lean LOADS. Nothing in Lean hashes anything: it is a label: what it is worth is what the hold of that sum in a sandbox is worth. -/
noncomputable def Tryz.pinned : Pinned := { name := "ytocpgkeiakjicaagreat", sum := "55c6da9cc8293f29c7c8c55251aa483498f3d39ebbee910186365d39b91e5fee", checked := Tryz.checked }
namespace Rows
def none {H : Type} : Left H := { results := [], args := [] }

/-- 'patinalaw14.ItemsSource': WHATEVER THE INPUT: true; the input reads as it did. -/
def itemsSourceSpec : ChangeSpec := { name := "itemsSource", fn := fun _ => fun
  | [d] => { results := [.lit (.bool true)], args := [d] }
  | _ => none }
def itemsSourceRow : OpenClaim := { program := "ytocpgkeiakjicaagreat", sum := "55c6da9cc8293f29c7c8c55251aa483498f3d39ebbee910186365d39b91e5fee", func := "patina/patinalaw14.ItemsSource", spec := "itemsSource", inPlace := ["internal/bytealg.IndexByteString", "internal/bytealg.IndexString"], unfollowed := true, recurses := true, named := ["internal/bytealg.MaxLen"], apart := false }
def ItemsSourceSaid : Prop := itemsSourceRow.holds Tryz.pinned (OpenSpec.ofChange itemsSourceSpec)

/-- ITS FALSE NEIGHBOUR: 'it returns false'. Refute it at one input. -/
def itemsSourceWrong : ChangeSpec := { name := "itemsSource", fn := fun _ => fun
  | [d] => { results := [.lit (.bool false)], args := [d] }
  | _ => none }
def ItemsSourceWrongFalsely : Prop := itemsSourceRow.holds Tryz.pinned (OpenSpec.ofChange itemsSourceWrong)

/-- 'patinalaw14.ItemsBodies': WHATEVER THE INPUT: true; the input reads as it did. -/
def itemsBodiesSpec : ChangeSpec := { name := "itemsBodies", fn := fun _ => fun
  | [d] => { results := [.lit (.bool true)], args := [d] }
  | _ => none }
def itemsBodiesRow : OpenClaim := { program := "ytocpgkeiakjicaagreat", sum := "55c6da9cc8293f29c7c8c55251aa483498f3d39ebbee910186365d39b91e5fee", func := "patina/patinalaw14.ItemsBodies", spec := "itemsBodies", inPlace := ["internal/bytealg.IndexByteString", "internal/bytealg.IndexString"], unfollowed := true, recurses := true, named := ["internal/bytealg.MaxLen"], apart := false }
def ItemsBodiesSaid : Prop := itemsBodiesRow.holds Tryz.pinned (OpenSpec.ofChange itemsBodiesSpec)

/-- ITS FALSE NEIGHBOUR: 'it returns false'. Refute it at one input. -/
def itemsBodiesWrong : ChangeSpec := { name := "itemsBodies", fn := fun _ => fun
  | [d] => { results := [.lit (.bool false)], args := [d] }
  | _ => none }
def ItemsBodiesWrongFalsely : Prop := itemsBodiesRow.holds Tryz.pinned (OpenSpec.ofChange itemsBodiesWrong)

/-- 'patinalaw14.ItemsMore': WHATEVER THE INPUT: true; the input reads as it did. -/
def itemsMoreSpec : ChangeSpec := { name := "itemsMore", fn := fun _ => fun
  | [d] => { results := [.lit (.bool true)], args := [d] }
  | _ => none }
def itemsMoreRow : OpenClaim := { program := "ytocpgkeiakjicaagreat", sum := "55c6da9cc8293f29c7c8c55251aa483498f3d39ebbee910186365d39b91e5fee", func := "patina/patinalaw14.ItemsMore", spec := "itemsMore", inPlace := ["internal/bytealg.IndexByteString", "internal/bytealg.IndexString"], unfollowed := true, recurses := true, named := ["internal/bytealg.MaxLen"], apart := false }
def ItemsMoreSaid : Prop := itemsMoreRow.holds Tryz.pinned (OpenSpec.ofChange itemsMoreSpec)

/-- ITS FALSE NEIGHBOUR: 'it returns false'. Refute it at one input. -/
def itemsMoreWrong : ChangeSpec := { name := "itemsMore", fn := fun _ => fun
  | [d] => { results := [.lit (.bool false)], args := [d] }
  | _ => none }
def ItemsMoreWrongFalsely : Prop := itemsMoreRow.holds Tryz.pinned (OpenSpec.ofChange itemsMoreWrong)

/-- 'patinalaw14.ItemsChecks': WHATEVER THE INPUT: true; the input reads as it did. -/
def itemsChecksSpec : ChangeSpec := { name := "itemsChecks", fn := fun _ => fun
  | [d1, d2] => { results := [.lit (.bool true)], args := [d1, d2] }
  | _ => none }
def itemsChecksRow : OpenClaim := { program := "ytocpgkeiakjicaagreat", sum := "55c6da9cc8293f29c7c8c55251aa483498f3d39ebbee910186365d39b91e5fee", func := "patina/patinalaw14.ItemsChecks", spec := "itemsChecks", inPlace := ["internal/bytealg.IndexByteString", "internal/bytealg.IndexString"], unfollowed := true, recurses := true, named := ["internal/bytealg.MaxLen"], apart := false }
def ItemsChecksSaid : Prop := itemsChecksRow.holds Tryz.pinned (OpenSpec.ofChange itemsChecksSpec)

/-- ITS FALSE NEIGHBOUR: 'it returns false'. Refute it at one input. -/
def itemsChecksWrong : ChangeSpec := { name := "itemsChecks", fn := fun _ => fun
  | [d1, d2] => { results := [.lit (.bool false)], args := [d1, d2] }
  | _ => none }
def ItemsChecksWrongFalsely : Prop := itemsChecksRow.holds Tryz.pinned (OpenSpec.ofChange itemsChecksWrong)

/- THE SECOND FORM. 'bulk': how many values and letters a reading holds, each counted each time it is reached (what is shared counts as often as it is met; a slice's spare places count too). A statement '..UptoSaid' is the law's where the arguments, and the package variables that the reading takes, are together of bulk at most 1048576: NARROWER than '..Said'. Prove '..Said' where nothing that the law and all that it calls make is longer than what came in: it says more and counts as full. Else prove '..UptoSaid'. A law counts once. -/
mutual
def uptoBulk {H : Type} : DataW H → Nat
  | .lit (.string bytes) => bytes.length + 1
  | .lit _ => 1
  | .nil => 1
  | .ptr d => uptoBulk d + 1
  | .slice elems spare => uptoBulkAll elems + uptoBulkAll spare + 1
  | .agg parts => uptoBulkAll parts + 1
  | .iface _ d => uptoBulk d + 1
  | .map entries => uptoBulkEntries entries + 1
  | .held _ => 1
def uptoBulkAll {H : Type} : List (DataW H) → Nat
  | [] => 0
  | d :: r => uptoBulk d + uptoBulkAll r
def uptoBulkEntries {H : Type} : List (Lit × DataW H) → Nat
  | [] => 0
  | x :: r => uptoBulkEntry x + uptoBulkEntries r
def uptoBulkEntry {H : Type} : Lit × DataW H → Nat
  | (.string bytes, d) => bytes.length + uptoBulk d + 1
  | (_, d) => uptoBulk d + 1
 end
def uptoSmall : (H : Type) → List (DataW H) → Bool := fun _ ds => decide (uptoBulkAll ds ≤ 1048576)
def OpenSpec.upto (s : _root_.Go.ChangeSpec) : _root_.Go.OpenSpec := { _root_.Go.OpenSpec.ofChange s with cond := some uptoSmall }

/-- 'patinalaw14.ItemsSource', WHERE WHAT IT READS IS OF BULK AT MOST 1048576: true; the input reads as it did. -/
def itemsSourceUptoRow : OpenClaim := { program := "ytocpgkeiakjicaagreat", sum := "55c6da9cc8293f29c7c8c55251aa483498f3d39ebbee910186365d39b91e5fee", func := "patina/patinalaw14.ItemsSource", spec := "itemsSource", inPlace := ["internal/bytealg.IndexByteString", "internal/bytealg.IndexString"], unfollowed := true, recurses := true, named := ["internal/bytealg.MaxLen"], apart := false, narrowed := true }
def ItemsSourceUptoSaid : Prop := itemsSourceUptoRow.holds Tryz.pinned (OpenSpec.upto itemsSourceSpec)

/-- 'patinalaw14.ItemsBodies', WHERE WHAT IT READS IS OF BULK AT MOST 1048576: true; the input reads as it did. -/
def itemsBodiesUptoRow : OpenClaim := { program := "ytocpgkeiakjicaagreat", sum := "55c6da9cc8293f29c7c8c55251aa483498f3d39ebbee910186365d39b91e5fee", func := "patina/patinalaw14.ItemsBodies", spec := "itemsBodies", inPlace := ["internal/bytealg.IndexByteString", "internal/bytealg.IndexString"], unfollowed := true, recurses := true, named := ["internal/bytealg.MaxLen"], apart := false, narrowed := true }
def ItemsBodiesUptoSaid : Prop := itemsBodiesUptoRow.holds Tryz.pinned (OpenSpec.upto itemsBodiesSpec)

/-- 'patinalaw14.ItemsMore', WHERE WHAT IT READS IS OF BULK AT MOST 1048576: true; the input reads as it did. -/
def itemsMoreUptoRow : OpenClaim := { program := "ytocpgkeiakjicaagreat", sum := "55c6da9cc8293f29c7c8c55251aa483498f3d39ebbee910186365d39b91e5fee", func := "patina/patinalaw14.ItemsMore", spec := "itemsMore", inPlace := ["internal/bytealg.IndexByteString", "internal/bytealg.IndexString"], unfollowed := true, recurses := true, named := ["internal/bytealg.MaxLen"], apart := false, narrowed := true }
def ItemsMoreUptoSaid : Prop := itemsMoreUptoRow.holds Tryz.pinned (OpenSpec.upto itemsMoreSpec)

/-- 'patinalaw14.ItemsChecks', WHERE WHAT IT READS IS OF BULK AT MOST 1048576: true; the input reads as it did. -/
def itemsChecksUptoRow : OpenClaim := { program := "ytocpgkeiakjicaagreat", sum := "55c6da9cc8293f29c7c8c55251aa483498f3d39ebbee910186365d39b91e5fee", func := "patina/patinalaw14.ItemsChecks", spec := "itemsChecks", inPlace := ["internal/bytealg.IndexByteString", "internal/bytealg.IndexString"], unfollowed := true, recurses := true, named := ["internal/bytealg.MaxLen"], apart := false, narrowed := true }
def ItemsChecksUptoSaid : Prop := itemsChecksUptoRow.holds Tryz.pinned (OpenSpec.upto itemsChecksSpec)

end Rows
end Go.Proofs.YtocpgkeiakjicaaGreat
