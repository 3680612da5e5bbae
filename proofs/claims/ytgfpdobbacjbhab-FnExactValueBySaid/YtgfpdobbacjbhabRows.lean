/-
  No cell of these rows narrows 'for every input' (looked for: loops, veiled, ifaces, maps, wideKeys, modest, calm, conditions, laid).
  DERIVED. THE GIVEN ROWS OF THIS SEAT. 6 by the template 'for every input the law returns true; each argument reads behind the call as it read before'; 0 by the template 'total and deterministic' (their statements: YtgfpdobbacjbhabTotals.lean).
  GIVEN WITH THE SEED: the statements are not yours to turn. If you find one false, say at which input.
  Laid BY PROGRAM, IN A SANDBOX (cutbox-rows.mjs): the forced cells as the released guide's own fill.sh prints them over the translation 72f1774a18d86566… (all of the seat's roots in one cut). By AI agents, Wed Nov 11 2026. No macro, syntax, notation, axiom, sorry.
-/
import Derived.Test.YtgfpdobbacjbhabChecked
import GoSem.Claim
import GoSem.ClaimJoined
import GoSem.ClaimMapViews
import Derived.JoinedTies
import Derived.KernelRfl
namespace Go.Proofs.Ytgfpdobbacjbhab
/- THE CELL 'sum', in the pinned program and in every row, IS THE sha256 OF THE DUMP (.gsa) THAT YtgfpdobbacjbhabProg.lean LOADS. Nothing in Lean hashes anything: it is a label: what it is worth is what the hold of that sum in a sandbox is worth. -/
noncomputable def Try.pinned : Pinned := { name := "ytgfpdobbacjbhab", sum := "72f1774a18d8656627d715e1947011a41a66e455227ea145a5d9b6d55bff9e5d", checked := Try.checked }
namespace Rows
def none {H : Type} : Left H := { results := [], args := [] }

/-- 'laws.FnExactChanceKind': WHATEVER THE INPUT: true; the input reads as it did. -/
def fnExactChanceKindSpec : ChangeSpec := { name := "fnExactChanceKind", fn := fun _ => fun
  | [d] => { results := [.lit (.bool true)], args := [d] }
  | _ => none }
def fnExactChanceKindRow : OpenClaim := { program := "ytgfpdobbacjbhab", sum := "72f1774a18d8656627d715e1947011a41a66e455227ea145a5d9b6d55bff9e5d", func := "loop.example/g01203/laws.FnExactChanceKind", spec := "fnExactChanceKind", apart := false }
def FnExactChanceKindSaid : Prop := fnExactChanceKindRow.holds Try.pinned (OpenSpec.ofChange fnExactChanceKindSpec)

/-- ITS FALSE NEIGHBOUR: 'it returns false'. Refute it at one input. -/
def fnExactChanceKindWrong : ChangeSpec := { name := "fnExactChanceKind", fn := fun _ => fun
  | [d] => { results := [.lit (.bool false)], args := [d] }
  | _ => none }
def FnExactChanceKindWrongFalsely : Prop := fnExactChanceKindRow.holds Try.pinned (OpenSpec.ofChange fnExactChanceKindWrong)

/-- 'laws.FnExactQuadsIn': WHATEVER THE INPUT: true; the input reads as it did. -/
def fnExactQuadsInSpec : ChangeSpec := { name := "fnExactQuadsIn", fn := fun _ => fun
  | [d] => { results := [.lit (.bool true)], args := [d] }
  | _ => none }
def fnExactQuadsInRow : OpenClaim := { program := "ytgfpdobbacjbhab", sum := "72f1774a18d8656627d715e1947011a41a66e455227ea145a5d9b6d55bff9e5d", func := "loop.example/g01203/laws.FnExactQuadsIn", spec := "fnExactQuadsIn", unfollowed := true, recurses := true, apart := false }
def FnExactQuadsInSaid : Prop := fnExactQuadsInRow.holds Try.pinned (OpenSpec.ofChange fnExactQuadsInSpec)

/-- ITS FALSE NEIGHBOUR: 'it returns false'. Refute it at one input. -/
def fnExactQuadsInWrong : ChangeSpec := { name := "fnExactQuadsIn", fn := fun _ => fun
  | [d] => { results := [.lit (.bool false)], args := [d] }
  | _ => none }
def FnExactQuadsInWrongFalsely : Prop := fnExactQuadsInRow.holds Try.pinned (OpenSpec.ofChange fnExactQuadsInWrong)

/-- 'laws.FnExactChanceNoLine': WHATEVER THE INPUT: true; the input reads as it did. -/
def fnExactChanceNoLineSpec : ChangeSpec := { name := "fnExactChanceNoLine", fn := fun _ => fun
  | [d] => { results := [.lit (.bool true)], args := [d] }
  | _ => none }
def fnExactChanceNoLineRow : OpenClaim := { program := "ytgfpdobbacjbhab", sum := "72f1774a18d8656627d715e1947011a41a66e455227ea145a5d9b6d55bff9e5d", func := "loop.example/g01203/laws.FnExactChanceNoLine", spec := "fnExactChanceNoLine", apart := false }
def FnExactChanceNoLineSaid : Prop := fnExactChanceNoLineRow.holds Try.pinned (OpenSpec.ofChange fnExactChanceNoLineSpec)

/-- ITS FALSE NEIGHBOUR: 'it returns false'. Refute it at one input. -/
def fnExactChanceNoLineWrong : ChangeSpec := { name := "fnExactChanceNoLine", fn := fun _ => fun
  | [d] => { results := [.lit (.bool false)], args := [d] }
  | _ => none }
def FnExactChanceNoLineWrongFalsely : Prop := fnExactChanceNoLineRow.holds Try.pinned (OpenSpec.ofChange fnExactChanceNoLineWrong)

/-- 'laws.FnExactValueBy': WHATEVER THE INPUT: true; the input reads as it did. -/
def fnExactValueBySpec : ChangeSpec := { name := "fnExactValueBy", fn := fun _ => fun
  | [d1, d2] => { results := [.lit (.bool true)], args := [d1, d2] }
  | _ => none }
def fnExactValueByRow : OpenClaim := { program := "ytgfpdobbacjbhab", sum := "72f1774a18d8656627d715e1947011a41a66e455227ea145a5d9b6d55bff9e5d", func := "loop.example/g01203/laws.FnExactValueBy", spec := "fnExactValueBy", unfollowed := true, recurses := true, apart := false }
def FnExactValueBySaid : Prop := fnExactValueByRow.holds Try.pinned (OpenSpec.ofChange fnExactValueBySpec)

/-- ITS FALSE NEIGHBOUR: 'it returns false'. Refute it at one input. -/
def fnExactValueByWrong : ChangeSpec := { name := "fnExactValueBy", fn := fun _ => fun
  | [d1, d2] => { results := [.lit (.bool false)], args := [d1, d2] }
  | _ => none }
def FnExactValueByWrongFalsely : Prop := fnExactValueByRow.holds Try.pinned (OpenSpec.ofChange fnExactValueByWrong)

/-- 'laws.FnExactShadowOf': WHATEVER THE INPUT: true; the input reads as it did. -/
def fnExactShadowOfSpec : ChangeSpec := { name := "fnExactShadowOf", fn := fun _ => fun
  | [d1, d2] => { results := [.lit (.bool true)], args := [d1, d2] }
  | _ => none }
def fnExactShadowOfRow : OpenClaim := { program := "ytgfpdobbacjbhab", sum := "72f1774a18d8656627d715e1947011a41a66e455227ea145a5d9b6d55bff9e5d", func := "loop.example/g01203/laws.FnExactShadowOf", spec := "fnExactShadowOf", unfollowed := true, recurses := true, apart := false }
def FnExactShadowOfSaid : Prop := fnExactShadowOfRow.holds Try.pinned (OpenSpec.ofChange fnExactShadowOfSpec)

/-- ITS FALSE NEIGHBOUR: 'it returns false'. Refute it at one input. -/
def fnExactShadowOfWrong : ChangeSpec := { name := "fnExactShadowOf", fn := fun _ => fun
  | [d1, d2] => { results := [.lit (.bool false)], args := [d1, d2] }
  | _ => none }
def FnExactShadowOfWrongFalsely : Prop := fnExactShadowOfRow.holds Try.pinned (OpenSpec.ofChange fnExactShadowOfWrong)

/-- 'laws.FnExactMagicSquare': WHATEVER THE INPUT: true; the input reads as it did. -/
def fnExactMagicSquareSpec : ChangeSpec := { name := "fnExactMagicSquare", fn := fun _ => fun
  | [d1, d2, d3] => { results := [.lit (.bool true)], args := [d1, d2, d3] }
  | _ => none }
def fnExactMagicSquareRow : OpenClaim := { program := "ytgfpdobbacjbhab", sum := "72f1774a18d8656627d715e1947011a41a66e455227ea145a5d9b6d55bff9e5d", func := "loop.example/g01203/laws.FnExactMagicSquare", spec := "fnExactMagicSquare", unfollowed := true, recurses := true, apart := false }
def FnExactMagicSquareSaid : Prop := fnExactMagicSquareRow.holds Try.pinned (OpenSpec.ofChange fnExactMagicSquareSpec)

/-- ITS FALSE NEIGHBOUR: 'it returns false'. Refute it at one input. -/
def fnExactMagicSquareWrong : ChangeSpec := { name := "fnExactMagicSquare", fn := fun _ => fun
  | [d1, d2, d3] => { results := [.lit (.bool false)], args := [d1, d2, d3] }
  | _ => none }
def FnExactMagicSquareWrongFalsely : Prop := fnExactMagicSquareRow.holds Try.pinned (OpenSpec.ofChange fnExactMagicSquareWrong)

/- THE SECOND FORM. 'bulk': how many values and letters a reading holds, each counted each time it is reached (what is shared counts as often as it is met; a slice's spare places count too). A statement '..UptoSaid' is the law's where the arguments, and the package variables that the reading takes, are together of bulk at most 1048576: NARROWER than '..Said'. Prove '..Said' where nothing that the law and all that it calls make is longer than what came in: it says more and counts as full. Else prove '..UptoSaid'. A law counts once. -/
mutual
def uptoBulk {H : Type} : DataW H → Nat
  | .lit (.string bytes) => bytes.length + 1
  | .lit _ => 1
  | .nil => 1
  | .ptr d => uptoBulk d + 1
  | .slice elems spare => uptoBulkAll elems + uptoBulkAll spare + 1
  | .agg parts => uptoBulkAll parts + 1
  | .iface _ d => uptoBulk d + 1
  | .map entries => uptoBulkEntries entries + 1
  | .held _ => 1
def uptoBulkAll {H : Type} : List (DataW H) → Nat
  | [] => 0
  | d :: r => uptoBulk d + uptoBulkAll r
def uptoBulkEntries {H : Type} : List (Lit × DataW H) → Nat
  | [] => 0
  | x :: r => uptoBulkEntry x + uptoBulkEntries r
def uptoBulkEntry {H : Type} : Lit × DataW H → Nat
  | (.string bytes, d) => bytes.length + uptoBulk d + 1
  | (_, d) => uptoBulk d + 1
 end
def uptoSmall : (H : Type) → List (DataW H) → Bool := fun _ ds => decide (uptoBulkAll ds ≤ 1048576)
def OpenSpec.upto (s : _root_.Go.ChangeSpec) : _root_.Go.OpenSpec := { _root_.Go.OpenSpec.ofChange s with cond := some uptoSmall }

/-- 'laws.FnExactChanceKind', WHERE WHAT IT READS IS OF BULK AT MOST 1048576: true; the input reads as it did. -/
def fnExactChanceKindUptoRow : OpenClaim := { program := "ytgfpdobbacjbhab", sum := "72f1774a18d8656627d715e1947011a41a66e455227ea145a5d9b6d55bff9e5d", func := "loop.example/g01203/laws.FnExactChanceKind", spec := "fnExactChanceKind", apart := false, narrowed := true }
def FnExactChanceKindUptoSaid : Prop := fnExactChanceKindUptoRow.holds Try.pinned (OpenSpec.upto fnExactChanceKindSpec)

/-- 'laws.FnExactQuadsIn', WHERE WHAT IT READS IS OF BULK AT MOST 1048576: true; the input reads as it did. -/
def fnExactQuadsInUptoRow : OpenClaim := { program := "ytgfpdobbacjbhab", sum := "72f1774a18d8656627d715e1947011a41a66e455227ea145a5d9b6d55bff9e5d", func := "loop.example/g01203/laws.FnExactQuadsIn", spec := "fnExactQuadsIn", unfollowed := true, recurses := true, apart := false, narrowed := true }
def FnExactQuadsInUptoSaid : Prop := fnExactQuadsInUptoRow.holds Try.pinned (OpenSpec.upto fnExactQuadsInSpec)

/-- 'laws.FnExactChanceNoLine', WHERE WHAT IT READS IS OF BULK AT MOST 1048576: true; the input reads as it did. -/
def fnExactChanceNoLineUptoRow : OpenClaim := { program := "ytgfpdobbacjbhab", sum := "72f1774a18d8656627d715e1947011a41a66e455227ea145a5d9b6d55bff9e5d", func := "loop.example/g01203/laws.FnExactChanceNoLine", spec := "fnExactChanceNoLine", apart := false, narrowed := true }
def FnExactChanceNoLineUptoSaid : Prop := fnExactChanceNoLineUptoRow.holds Try.pinned (OpenSpec.upto fnExactChanceNoLineSpec)

/-- 'laws.FnExactValueBy', WHERE WHAT IT READS IS OF BULK AT MOST 1048576: true; the input reads as it did. -/
def fnExactValueByUptoRow : OpenClaim := { program := "ytgfpdobbacjbhab", sum := "72f1774a18d8656627d715e1947011a41a66e455227ea145a5d9b6d55bff9e5d", func := "loop.example/g01203/laws.FnExactValueBy", spec := "fnExactValueBy", unfollowed := true, recurses := true, apart := false, narrowed := true }
def FnExactValueByUptoSaid : Prop := fnExactValueByUptoRow.holds Try.pinned (OpenSpec.upto fnExactValueBySpec)

/-- 'laws.FnExactShadowOf', WHERE WHAT IT READS IS OF BULK AT MOST 1048576: true; the input reads as it did. -/
def fnExactShadowOfUptoRow : OpenClaim := { program := "ytgfpdobbacjbhab", sum := "72f1774a18d8656627d715e1947011a41a66e455227ea145a5d9b6d55bff9e5d", func := "loop.example/g01203/laws.FnExactShadowOf", spec := "fnExactShadowOf", unfollowed := true, recurses := true, apart := false, narrowed := true }
def FnExactShadowOfUptoSaid : Prop := fnExactShadowOfUptoRow.holds Try.pinned (OpenSpec.upto fnExactShadowOfSpec)

/-- 'laws.FnExactMagicSquare', WHERE WHAT IT READS IS OF BULK AT MOST 1048576: true; the input reads as it did. -/
def fnExactMagicSquareUptoRow : OpenClaim := { program := "ytgfpdobbacjbhab", sum := "72f1774a18d8656627d715e1947011a41a66e455227ea145a5d9b6d55bff9e5d", func := "loop.example/g01203/laws.FnExactMagicSquare", spec := "fnExactMagicSquare", unfollowed := true, recurses := true, apart := false, narrowed := true }
def FnExactMagicSquareUptoSaid : Prop := fnExactMagicSquareUptoRow.holds Try.pinned (OpenSpec.upto fnExactMagicSquareSpec)

end Rows
end Go.Proofs.Ytgfpdobbacjbhab
