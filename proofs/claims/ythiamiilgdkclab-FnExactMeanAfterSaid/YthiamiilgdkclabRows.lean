/-
  No cell of these rows narrows 'for every input' (looked for: loops, veiled, ifaces, maps, wideKeys, modest, calm, conditions, laid).
  DERIVED. THE GIVEN ROWS OF THIS SEAT. 6 by the template 'for every input the law returns true; each argument reads behind the call as it read before'; 0 by the template 'total and deterministic' (their statements: YthiamiilgdkclabTotals.lean).
  GIVEN WITH THE SEED: the statements are not yours to turn. If you find one false, say at which input.
  Laid BY PROGRAM, IN A SANDBOX (cutbox-rows.mjs): the forced cells as the released guide's own fill.sh prints them over the translation 412114cd5eb7be69… (all of the seat's roots in one cut). By AI agents, Wed Nov 11 2026. No macro, syntax, notation, axiom, sorry.
-/
import Derived.Test.YthiamiilgdkclabChecked
import GoSem.Claim
import GoSem.ClaimJoined
import GoSem.ClaimMapViews
import Derived.JoinedTies
import Derived.KernelRfl
namespace Go.Proofs.Ythiamiilgdkclab
/- THE CELL 'sum', in the pinned program and in every row, IS THE sha256 OF THE DUMP (.gsa) THAT YthiamiilgdkclabProg.lean LOADS. Nothing in Lean hashes anything: it is a label: what it is worth is what the hold of that sum in a sandbox is worth. -/
noncomputable def Try.pinned : Pinned := { name := "ythiamiilgdkclab", sum := "412114cd5eb7be69dc0f4e29a04e20e1bd366c15596a619337950b907c9c8715", checked := Try.checked }
namespace Rows
def none {H : Type} : Left H := { results := [], args := [] }

/-- 'laws.FnExactChanceBlocked': WHATEVER THE INPUT: true; the input reads as it did. -/
def fnExactChanceBlockedSpec : ChangeSpec := { name := "fnExactChanceBlocked", fn := fun _ => fun
  | [d] => { results := [.lit (.bool true)], args := [d] }
  | _ => none }
def fnExactChanceBlockedRow : OpenClaim := { program := "ythiamiilgdkclab", sum := "412114cd5eb7be69dc0f4e29a04e20e1bd366c15596a619337950b907c9c8715", func := "loop.example/g01203/laws.FnExactChanceBlocked", spec := "fnExactChanceBlocked", unfollowed := true, recurses := true, apart := false }
def FnExactChanceBlockedSaid : Prop := fnExactChanceBlockedRow.holds Try.pinned (OpenSpec.ofChange fnExactChanceBlockedSpec)

/-- ITS FALSE NEIGHBOUR: 'it returns false'. Refute it at one input. -/
def fnExactChanceBlockedWrong : ChangeSpec := { name := "fnExactChanceBlocked", fn := fun _ => fun
  | [d] => { results := [.lit (.bool false)], args := [d] }
  | _ => none }
def FnExactChanceBlockedWrongFalsely : Prop := fnExactChanceBlockedRow.holds Try.pinned (OpenSpec.ofChange fnExactChanceBlockedWrong)

/-- 'laws.FnExactLinesAt': WHATEVER THE INPUT: true; the input reads as it did. -/
def fnExactLinesAtSpec : ChangeSpec := { name := "fnExactLinesAt", fn := fun _ => fun
  | [d1, d2] => { results := [.lit (.bool true)], args := [d1, d2] }
  | _ => none }
def fnExactLinesAtRow : OpenClaim := { program := "ythiamiilgdkclab", sum := "412114cd5eb7be69dc0f4e29a04e20e1bd366c15596a619337950b907c9c8715", func := "loop.example/g01203/laws.FnExactLinesAt", spec := "fnExactLinesAt", unfollowed := true, recurses := true, apart := false }
def FnExactLinesAtSaid : Prop := fnExactLinesAtRow.holds Try.pinned (OpenSpec.ofChange fnExactLinesAtSpec)

/-- ITS FALSE NEIGHBOUR: 'it returns false'. Refute it at one input. -/
def fnExactLinesAtWrong : ChangeSpec := { name := "fnExactLinesAt", fn := fun _ => fun
  | [d1, d2] => { results := [.lit (.bool false)], args := [d1, d2] }
  | _ => none }
def FnExactLinesAtWrongFalsely : Prop := fnExactLinesAtRow.holds Try.pinned (OpenSpec.ofChange fnExactLinesAtWrong)

/-- 'laws.FnExactLinesOfKind': WHATEVER THE INPUT: true; the input reads as it did. -/
def fnExactLinesOfKindSpec : ChangeSpec := { name := "fnExactLinesOfKind", fn := fun _ => fun
  | [d1, d2] => { results := [.lit (.bool true)], args := [d1, d2] }
  | _ => none }
def fnExactLinesOfKindRow : OpenClaim := { program := "ythiamiilgdkclab", sum := "412114cd5eb7be69dc0f4e29a04e20e1bd366c15596a619337950b907c9c8715", func := "loop.example/g01203/laws.FnExactLinesOfKind", spec := "fnExactLinesOfKind", unfollowed := true, recurses := true, apart := false }
def FnExactLinesOfKindSaid : Prop := fnExactLinesOfKindRow.holds Try.pinned (OpenSpec.ofChange fnExactLinesOfKindSpec)

/-- ITS FALSE NEIGHBOUR: 'it returns false'. Refute it at one input. -/
def fnExactLinesOfKindWrong : ChangeSpec := { name := "fnExactLinesOfKind", fn := fun _ => fun
  | [d1, d2] => { results := [.lit (.bool false)], args := [d1, d2] }
  | _ => none }
def FnExactLinesOfKindWrongFalsely : Prop := fnExactLinesOfKindRow.holds Try.pinned (OpenSpec.ofChange fnExactLinesOfKindWrong)

/-- 'laws.FnExactChanceStays': WHATEVER THE INPUT: true; the input reads as it did. -/
def fnExactChanceStaysSpec : ChangeSpec := { name := "fnExactChanceStays", fn := fun _ => fun
  | [d] => { results := [.lit (.bool true)], args := [d] }
  | _ => none }
def fnExactChanceStaysRow : OpenClaim := { program := "ythiamiilgdkclab", sum := "412114cd5eb7be69dc0f4e29a04e20e1bd366c15596a619337950b907c9c8715", func := "loop.example/g01203/laws.FnExactChanceStays", spec := "fnExactChanceStays", unfollowed := true, recurses := true, apart := false }
def FnExactChanceStaysSaid : Prop := fnExactChanceStaysRow.holds Try.pinned (OpenSpec.ofChange fnExactChanceStaysSpec)

/-- ITS FALSE NEIGHBOUR: 'it returns false'. Refute it at one input. -/
def fnExactChanceStaysWrong : ChangeSpec := { name := "fnExactChanceStays", fn := fun _ => fun
  | [d] => { results := [.lit (.bool false)], args := [d] }
  | _ => none }
def FnExactChanceStaysWrongFalsely : Prop := fnExactChanceStaysRow.holds Try.pinned (OpenSpec.ofChange fnExactChanceStaysWrong)

/-- 'laws.FnExactGreedyPicking': WHATEVER THE INPUT: true; the input reads as it did. -/
def fnExactGreedyPickingSpec : ChangeSpec := { name := "fnExactGreedyPicking", fn := fun _ => fun
  | [d] => { results := [.lit (.bool true)], args := [d] }
  | _ => none }
def fnExactGreedyPickingRow : OpenClaim := { program := "ythiamiilgdkclab", sum := "412114cd5eb7be69dc0f4e29a04e20e1bd366c15596a619337950b907c9c8715", func := "loop.example/g01203/laws.FnExactGreedyPicking", spec := "fnExactGreedyPicking", unfollowed := true, recurses := true, apart := false }
def FnExactGreedyPickingSaid : Prop := fnExactGreedyPickingRow.holds Try.pinned (OpenSpec.ofChange fnExactGreedyPickingSpec)

/-- ITS FALSE NEIGHBOUR: 'it returns false'. Refute it at one input. -/
def fnExactGreedyPickingWrong : ChangeSpec := { name := "fnExactGreedyPicking", fn := fun _ => fun
  | [d] => { results := [.lit (.bool false)], args := [d] }
  | _ => none }
def FnExactGreedyPickingWrongFalsely : Prop := fnExactGreedyPickingRow.holds Try.pinned (OpenSpec.ofChange fnExactGreedyPickingWrong)

/-- 'laws.FnExactMeanAfter': WHATEVER THE INPUT: true; the input reads as it did. -/
def fnExactMeanAfterSpec : ChangeSpec := { name := "fnExactMeanAfter", fn := fun _ => fun
  | [d1, d2] => { results := [.lit (.bool true)], args := [d1, d2] }
  | _ => none }
def fnExactMeanAfterRow : OpenClaim := { program := "ythiamiilgdkclab", sum := "412114cd5eb7be69dc0f4e29a04e20e1bd366c15596a619337950b907c9c8715", func := "loop.example/g01203/laws.FnExactMeanAfter", spec := "fnExactMeanAfter", unfollowed := true, recurses := true, apart := false }
def FnExactMeanAfterSaid : Prop := fnExactMeanAfterRow.holds Try.pinned (OpenSpec.ofChange fnExactMeanAfterSpec)

/-- ITS FALSE NEIGHBOUR: 'it returns false'. Refute it at one input. -/
def fnExactMeanAfterWrong : ChangeSpec := { name := "fnExactMeanAfter", fn := fun _ => fun
  | [d1, d2] => { results := [.lit (.bool false)], args := [d1, d2] }
  | _ => none }
def FnExactMeanAfterWrongFalsely : Prop := fnExactMeanAfterRow.holds Try.pinned (OpenSpec.ofChange fnExactMeanAfterWrong)

/- THE SECOND FORM. 'bulk': how many values and letters a reading holds, each counted each time it is reached (what is shared counts as often as it is met; a slice's spare places count too). A statement '..UptoSaid' is the law's where the arguments, and the package variables that the reading takes, are together of bulk at most 1048576: NARROWER than '..Said'. Prove '..Said' where nothing that the law and all that it calls make is longer than what came in: it says more and counts as full. Else prove '..UptoSaid'. A law counts once. -/
mutual
def uptoBulk {H : Type} : DataW H → Nat
  | .lit (.string bytes) => bytes.length + 1
  | .lit _ => 1
  | .nil => 1
  | .ptr d => uptoBulk d + 1
  | .slice elems spare => uptoBulkAll elems + uptoBulkAll spare + 1
  | .agg parts => uptoBulkAll parts + 1
  | .iface _ d => uptoBulk d + 1
  | .map entries => uptoBulkEntries entries + 1
  | .held _ => 1
def uptoBulkAll {H : Type} : List (DataW H) → Nat
  | [] => 0
  | d :: r => uptoBulk d + uptoBulkAll r
def uptoBulkEntries {H : Type} : List (Lit × DataW H) → Nat
  | [] => 0
  | x :: r => uptoBulkEntry x + uptoBulkEntries r
def uptoBulkEntry {H : Type} : Lit × DataW H → Nat
  | (.string bytes, d) => bytes.length + uptoBulk d + 1
  | (_, d) => uptoBulk d + 1
 end
def uptoSmall : (H : Type) → List (DataW H) → Bool := fun _ ds => decide (uptoBulkAll ds ≤ 1048576)
def OpenSpec.upto (s : _root_.Go.ChangeSpec) : _root_.Go.OpenSpec := { _root_.Go.OpenSpec.ofChange s with cond := some uptoSmall }

/-- 'laws.FnExactChanceBlocked', WHERE WHAT IT READS IS OF BULK AT MOST 1048576: true; the input reads as it did. -/
def fnExactChanceBlockedUptoRow : OpenClaim := { program := "ythiamiilgdkclab", sum := "412114cd5eb7be69dc0f4e29a04e20e1bd366c15596a619337950b907c9c8715", func := "loop.example/g01203/laws.FnExactChanceBlocked", spec := "fnExactChanceBlocked", unfollowed := true, recurses := true, apart := false, narrowed := true }
def FnExactChanceBlockedUptoSaid : Prop := fnExactChanceBlockedUptoRow.holds Try.pinned (OpenSpec.upto fnExactChanceBlockedSpec)

/-- 'laws.FnExactLinesAt', WHERE WHAT IT READS IS OF BULK AT MOST 1048576: true; the input reads as it did. -/
def fnExactLinesAtUptoRow : OpenClaim := { program := "ythiamiilgdkclab", sum := "412114cd5eb7be69dc0f4e29a04e20e1bd366c15596a619337950b907c9c8715", func := "loop.example/g01203/laws.FnExactLinesAt", spec := "fnExactLinesAt", unfollowed := true, recurses := true, apart := false, narrowed := true }
def FnExactLinesAtUptoSaid : Prop := fnExactLinesAtUptoRow.holds Try.pinned (OpenSpec.upto fnExactLinesAtSpec)

/-- 'laws.FnExactLinesOfKind', WHERE WHAT IT READS IS OF BULK AT MOST 1048576: true; the input reads as it did. -/
def fnExactLinesOfKindUptoRow : OpenClaim := { program := "ythiamiilgdkclab", sum := "412114cd5eb7be69dc0f4e29a04e20e1bd366c15596a619337950b907c9c8715", func := "loop.example/g01203/laws.FnExactLinesOfKind", spec := "fnExactLinesOfKind", unfollowed := true, recurses := true, apart := false, narrowed := true }
def FnExactLinesOfKindUptoSaid : Prop := fnExactLinesOfKindUptoRow.holds Try.pinned (OpenSpec.upto fnExactLinesOfKindSpec)

/-- 'laws.FnExactChanceStays', WHERE WHAT IT READS IS OF BULK AT MOST 1048576: true; the input reads as it did. -/
def fnExactChanceStaysUptoRow : OpenClaim := { program := "ythiamiilgdkclab", sum := "412114cd5eb7be69dc0f4e29a04e20e1bd366c15596a619337950b907c9c8715", func := "loop.example/g01203/laws.FnExactChanceStays", spec := "fnExactChanceStays", unfollowed := true, recurses := true, apart := false, narrowed := true }
def FnExactChanceStaysUptoSaid : Prop := fnExactChanceStaysUptoRow.holds Try.pinned (OpenSpec.upto fnExactChanceStaysSpec)

/-- 'laws.FnExactGreedyPicking', WHERE WHAT IT READS IS OF BULK AT MOST 1048576: true; the input reads as it did. -/
def fnExactGreedyPickingUptoRow : OpenClaim := { program := "ythiamiilgdkclab", sum := "412114cd5eb7be69dc0f4e29a04e20e1bd366c15596a619337950b907c9c8715", func := "loop.example/g01203/laws.FnExactGreedyPicking", spec := "fnExactGreedyPicking", unfollowed := true, recurses := true, apart := false, narrowed := true }
def FnExactGreedyPickingUptoSaid : Prop := fnExactGreedyPickingUptoRow.holds Try.pinned (OpenSpec.upto fnExactGreedyPickingSpec)

/-- 'laws.FnExactMeanAfter', WHERE WHAT IT READS IS OF BULK AT MOST 1048576: true; the input reads as it did. -/
def fnExactMeanAfterUptoRow : OpenClaim := { program := "ythiamiilgdkclab", sum := "412114cd5eb7be69dc0f4e29a04e20e1bd366c15596a619337950b907c9c8715", func := "loop.example/g01203/laws.FnExactMeanAfter", spec := "fnExactMeanAfter", unfollowed := true, recurses := true, apart := false, narrowed := true }
def FnExactMeanAfterUptoSaid : Prop := fnExactMeanAfterUptoRow.holds Try.pinned (OpenSpec.upto fnExactMeanAfterSpec)

end Rows
end Go.Proofs.Ythiamiilgdkclab
