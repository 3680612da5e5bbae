/-
  No cell of these rows narrows 'for every input' (looked for: loops, veiled, ifaces, maps, wideKeys, modest, calm, conditions, laid).
  DERIVED. THE GIVEN ROWS OF THIS SEAT. 6 by the template 'for every input the law returns true; each argument reads behind the call as it read before'; 0 by the template 'total and deterministic' (their statements: YtinoohckfhhbfaaTotals.lean).
  GIVEN WITH THE SEED: the statements are not yours to turn. If you find one false, say at which input.
  Laid BY PROGRAM, IN A SANDBOX (cutbox-rows.mjs): the forced cells as the released guide's own fill.sh prints them over the translation f93579f054206e0b… (all of the seat's roots in one cut). By AI agents, Wed Nov 11 2026. No macro, syntax, notation, axiom, sorry.
-/
import Derived.Test.YtinoohckfhhbfaaChecked
import GoSem.Claim
import GoSem.ClaimJoined
import GoSem.ClaimMapViews
import Derived.JoinedTies
import Derived.KernelRfl
namespace Go.Proofs.Ytinoohckfhhbfaa
/- THE CELL 'sum', in the pinned program and in every row, IS THE sha256 OF THE DUMP (.gsa) THAT YtinoohckfhhbfaaProg.lean LOADS. Nothing in Lean hashes anything: it is a label: what it is worth is what the hold of that sum in a sandbox is worth. -/
noncomputable def Try.pinned : Pinned := { name := "ytinoohckfhhbfaa", sum := "f93579f054206e0ba854b426f7e8143779700eef993fb09224a10327aa91d83a", checked := Try.checked }
namespace Rows
def none {H : Type} : Left H := { results := [], args := [] }

/-- 'laws.FnExactMagicSquare': WHATEVER THE INPUT: true; the input reads as it did. -/
def fnExactMagicSquareSpec : ChangeSpec := { name := "fnExactMagicSquare", fn := fun _ => fun
  | [d1, d2, d3] => { results := [.lit (.bool true)], args := [d1, d2, d3] }
  | _ => none }
def fnExactMagicSquareRow : OpenClaim := { program := "ytinoohckfhhbfaa", sum := "f93579f054206e0ba854b426f7e8143779700eef993fb09224a10327aa91d83a", func := "loop.example/g01203/laws.FnExactMagicSquare", spec := "fnExactMagicSquare", unfollowed := true, recurses := true, apart := false }
def FnExactMagicSquareSaid : Prop := fnExactMagicSquareRow.holds Try.pinned (OpenSpec.ofChange fnExactMagicSquareSpec)

/-- ITS FALSE NEIGHBOUR: 'it returns false'. Refute it at one input. -/
def fnExactMagicSquareWrong : ChangeSpec := { name := "fnExactMagicSquare", fn := fun _ => fun
  | [d1, d2, d3] => { results := [.lit (.bool false)], args := [d1, d2, d3] }
  | _ => none }
def FnExactMagicSquareWrongFalsely : Prop := fnExactMagicSquareRow.holds Try.pinned (OpenSpec.ofChange fnExactMagicSquareWrong)

/-- 'laws.FnExactIsGhost': WHATEVER THE INPUT: true; the input reads as it did. -/
def fnExactIsGhostSpec : ChangeSpec := { name := "fnExactIsGhost", fn := fun _ => fun
  | [d] => { results := [.lit (.bool true)], args := [d] }
  | _ => none }
def fnExactIsGhostRow : OpenClaim := { program := "ytinoohckfhhbfaa", sum := "f93579f054206e0ba854b426f7e8143779700eef993fb09224a10327aa91d83a", func := "loop.example/g01203/laws.FnExactIsGhost", spec := "fnExactIsGhost", unfollowed := true, recurses := true, apart := false }
def FnExactIsGhostSaid : Prop := fnExactIsGhostRow.holds Try.pinned (OpenSpec.ofChange fnExactIsGhostSpec)

/-- ITS FALSE NEIGHBOUR: 'it returns false'. Refute it at one input. -/
def fnExactIsGhostWrong : ChangeSpec := { name := "fnExactIsGhost", fn := fun _ => fun
  | [d] => { results := [.lit (.bool false)], args := [d] }
  | _ => none }
def FnExactIsGhostWrongFalsely : Prop := fnExactIsGhostRow.holds Try.pinned (OpenSpec.ofChange fnExactIsGhostWrong)

/-- 'laws.FnExactNewGame': WHATEVER THE INPUT: true; the input reads as it did. -/
def fnExactNewGameSpec : ChangeSpec := { name := "fnExactNewGame", fn := fun _ => fun
  | [d1, d2] => { results := [.lit (.bool true)], args := [d1, d2] }
  | _ => none }
def fnExactNewGameRow : OpenClaim := { program := "ytinoohckfhhbfaa", sum := "f93579f054206e0ba854b426f7e8143779700eef993fb09224a10327aa91d83a", func := "loop.example/g01203/laws.FnExactNewGame", spec := "fnExactNewGame", apart := false }
def FnExactNewGameSaid : Prop := fnExactNewGameRow.holds Try.pinned (OpenSpec.ofChange fnExactNewGameSpec)

/-- ITS FALSE NEIGHBOUR: 'it returns false'. Refute it at one input. -/
def fnExactNewGameWrong : ChangeSpec := { name := "fnExactNewGame", fn := fun _ => fun
  | [d1, d2] => { results := [.lit (.bool false)], args := [d1, d2] }
  | _ => none }
def FnExactNewGameWrongFalsely : Prop := fnExactNewGameRow.holds Try.pinned (OpenSpec.ofChange fnExactNewGameWrong)

/-- 'laws.FnExactNearLines': WHATEVER THE INPUT: true; the input reads as it did. -/
def fnExactNearLinesSpec : ChangeSpec := { name := "fnExactNearLines", fn := fun _ => fun
  | [d] => { results := [.lit (.bool true)], args := [d] }
  | _ => none }
def fnExactNearLinesRow : OpenClaim := { program := "ytinoohckfhhbfaa", sum := "f93579f054206e0ba854b426f7e8143779700eef993fb09224a10327aa91d83a", func := "loop.example/g01203/laws.FnExactNearLines", spec := "fnExactNearLines", unfollowed := true, recurses := true, apart := false }
def FnExactNearLinesSaid : Prop := fnExactNearLinesRow.holds Try.pinned (OpenSpec.ofChange fnExactNearLinesSpec)

/-- ITS FALSE NEIGHBOUR: 'it returns false'. Refute it at one input. -/
def fnExactNearLinesWrong : ChangeSpec := { name := "fnExactNearLines", fn := fun _ => fun
  | [d] => { results := [.lit (.bool false)], args := [d] }
  | _ => none }
def FnExactNearLinesWrongFalsely : Prop := fnExactNearLinesRow.holds Try.pinned (OpenSpec.ofChange fnExactNearLinesWrong)

/-- 'laws.FnExactChanceCap': WHATEVER THE INPUT: true; the input reads as it did. -/
def fnExactChanceCapSpec : ChangeSpec := { name := "fnExactChanceCap", fn := fun _ => fun
  | [d1, d2] => { results := [.lit (.bool true)], args := [d1, d2] }
  | _ => none }
def fnExactChanceCapRow : OpenClaim := { program := "ytinoohckfhhbfaa", sum := "f93579f054206e0ba854b426f7e8143779700eef993fb09224a10327aa91d83a", func := "loop.example/g01203/laws.FnExactChanceCap", spec := "fnExactChanceCap", unfollowed := true, recurses := true, apart := false }
def FnExactChanceCapSaid : Prop := fnExactChanceCapRow.holds Try.pinned (OpenSpec.ofChange fnExactChanceCapSpec)

/-- ITS FALSE NEIGHBOUR: 'it returns false'. Refute it at one input. -/
def fnExactChanceCapWrong : ChangeSpec := { name := "fnExactChanceCap", fn := fun _ => fun
  | [d1, d2] => { results := [.lit (.bool false)], args := [d1, d2] }
  | _ => none }
def FnExactChanceCapWrongFalsely : Prop := fnExactChanceCapRow.holds Try.pinned (OpenSpec.ofChange fnExactChanceCapWrong)

/-- 'laws.FnExactGhostsIn': WHATEVER THE INPUT: true; the input reads as it did. -/
def fnExactGhostsInSpec : ChangeSpec := { name := "fnExactGhostsIn", fn := fun _ => fun
  | [d] => { results := [.lit (.bool true)], args := [d] }
  | _ => none }
def fnExactGhostsInRow : OpenClaim := { program := "ytinoohckfhhbfaa", sum := "f93579f054206e0ba854b426f7e8143779700eef993fb09224a10327aa91d83a", func := "loop.example/g01203/laws.FnExactGhostsIn", spec := "fnExactGhostsIn", unfollowed := true, recurses := true, apart := false }
def FnExactGhostsInSaid : Prop := fnExactGhostsInRow.holds Try.pinned (OpenSpec.ofChange fnExactGhostsInSpec)

/-- ITS FALSE NEIGHBOUR: 'it returns false'. Refute it at one input. -/
def fnExactGhostsInWrong : ChangeSpec := { name := "fnExactGhostsIn", fn := fun _ => fun
  | [d] => { results := [.lit (.bool false)], args := [d] }
  | _ => none }
def FnExactGhostsInWrongFalsely : Prop := fnExactGhostsInRow.holds Try.pinned (OpenSpec.ofChange fnExactGhostsInWrong)

/- THE SECOND FORM. 'bulk': how many values and letters a reading holds, each counted each time it is reached (what is shared counts as often as it is met; a slice's spare places count too). A statement '..UptoSaid' is the law's where the arguments, and the package variables that the reading takes, are together of bulk at most 1048576: NARROWER than '..Said'. Prove '..Said' where nothing that the law and all that it calls make is longer than what came in: it says more and counts as full. Else prove '..UptoSaid'. A law counts once. -/
mutual
def uptoBulk {H : Type} : DataW H → Nat
  | .lit (.string bytes) => bytes.length + 1
  | .lit _ => 1
  | .nil => 1
  | .ptr d => uptoBulk d + 1
  | .slice elems spare => uptoBulkAll elems + uptoBulkAll spare + 1
  | .agg parts => uptoBulkAll parts + 1
  | .iface _ d => uptoBulk d + 1
  | .map entries => uptoBulkEntries entries + 1
  | .held _ => 1
def uptoBulkAll {H : Type} : List (DataW H) → Nat
  | [] => 0
  | d :: r => uptoBulk d + uptoBulkAll r
def uptoBulkEntries {H : Type} : List (Lit × DataW H) → Nat
  | [] => 0
  | x :: r => uptoBulkEntry x + uptoBulkEntries r
def uptoBulkEntry {H : Type} : Lit × DataW H → Nat
  | (.string bytes, d) => bytes.length + uptoBulk d + 1
  | (_, d) => uptoBulk d + 1
 end
def uptoSmall : (H : Type) → List (DataW H) → Bool := fun _ ds => decide (uptoBulkAll ds ≤ 1048576)
def OpenSpec.upto (s : _root_.Go.ChangeSpec) : _root_.Go.OpenSpec := { _root_.Go.OpenSpec.ofChange s with cond := some uptoSmall }

/-- 'laws.FnExactMagicSquare', WHERE WHAT IT READS IS OF BULK AT MOST 1048576: true; the input reads as it did. -/
def fnExactMagicSquareUptoRow : OpenClaim := { program := "ytinoohckfhhbfaa", sum := "f93579f054206e0ba854b426f7e8143779700eef993fb09224a10327aa91d83a", func := "loop.example/g01203/laws.FnExactMagicSquare", spec := "fnExactMagicSquare", unfollowed := true, recurses := true, apart := false, narrowed := true }
def FnExactMagicSquareUptoSaid : Prop := fnExactMagicSquareUptoRow.holds Try.pinned (OpenSpec.upto fnExactMagicSquareSpec)

/-- 'laws.FnExactIsGhost', WHERE WHAT IT READS IS OF BULK AT MOST 1048576: true; the input reads as it did. -/
def fnExactIsGhostUptoRow : OpenClaim := { program := "ytinoohckfhhbfaa", sum := "f93579f054206e0ba854b426f7e8143779700eef993fb09224a10327aa91d83a", func := "loop.example/g01203/laws.FnExactIsGhost", spec := "fnExactIsGhost", unfollowed := true, recurses := true, apart := false, narrowed := true }
def FnExactIsGhostUptoSaid : Prop := fnExactIsGhostUptoRow.holds Try.pinned (OpenSpec.upto fnExactIsGhostSpec)

/-- 'laws.FnExactNewGame', WHERE WHAT IT READS IS OF BULK AT MOST 1048576: true; the input reads as it did. -/
def fnExactNewGameUptoRow : OpenClaim := { program := "ytinoohckfhhbfaa", sum := "f93579f054206e0ba854b426f7e8143779700eef993fb09224a10327aa91d83a", func := "loop.example/g01203/laws.FnExactNewGame", spec := "fnExactNewGame", apart := false, narrowed := true }
def FnExactNewGameUptoSaid : Prop := fnExactNewGameUptoRow.holds Try.pinned (OpenSpec.upto fnExactNewGameSpec)

/-- 'laws.FnExactNearLines', WHERE WHAT IT READS IS OF BULK AT MOST 1048576: true; the input reads as it did. -/
def fnExactNearLinesUptoRow : OpenClaim := { program := "ytinoohckfhhbfaa", sum := "f93579f054206e0ba854b426f7e8143779700eef993fb09224a10327aa91d83a", func := "loop.example/g01203/laws.FnExactNearLines", spec := "fnExactNearLines", unfollowed := true, recurses := true, apart := false, narrowed := true }
def FnExactNearLinesUptoSaid : Prop := fnExactNearLinesUptoRow.holds Try.pinned (OpenSpec.upto fnExactNearLinesSpec)

/-- 'laws.FnExactChanceCap', WHERE WHAT IT READS IS OF BULK AT MOST 1048576: true; the input reads as it did. -/
def fnExactChanceCapUptoRow : OpenClaim := { program := "ytinoohckfhhbfaa", sum := "f93579f054206e0ba854b426f7e8143779700eef993fb09224a10327aa91d83a", func := "loop.example/g01203/laws.FnExactChanceCap", spec := "fnExactChanceCap", unfollowed := true, recurses := true, apart := false, narrowed := true }
def FnExactChanceCapUptoSaid : Prop := fnExactChanceCapUptoRow.holds Try.pinned (OpenSpec.upto fnExactChanceCapSpec)

/-- 'laws.FnExactGhostsIn', WHERE WHAT IT READS IS OF BULK AT MOST 1048576: true; the input reads as it did. -/
def fnExactGhostsInUptoRow : OpenClaim := { program := "ytinoohckfhhbfaa", sum := "f93579f054206e0ba854b426f7e8143779700eef993fb09224a10327aa91d83a", func := "loop.example/g01203/laws.FnExactGhostsIn", spec := "fnExactGhostsIn", unfollowed := true, recurses := true, apart := false, narrowed := true }
def FnExactGhostsInUptoSaid : Prop := fnExactGhostsInUptoRow.holds Try.pinned (OpenSpec.upto fnExactGhostsInSpec)

end Rows
end Go.Proofs.Ytinoohckfhhbfaa
