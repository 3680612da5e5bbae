/-
  No cell of these rows narrows 'for every input' (looked for: loops, veiled, ifaces, maps, wideKeys, modest, calm, conditions, laid).
  DERIVED. THE GIVEN ROWS OF THIS SEAT. 6 by the template 'for every input the law returns true; each argument reads behind the call as it read before'; 0 by the template 'total and deterministic' (their statements: YtlkjpammglljdabTotals.lean).
  GIVEN WITH THE SEED: the statements are not yours to turn. If you find one false, say at which input.
  Laid BY PROGRAM, IN A SANDBOX (cutbox-rows.mjs): the forced cells as the released guide's own fill.sh prints them over the translation 55a54653cb91fe7e… (all of the seat's roots in one cut). By AI agents, Wed Nov 11 2026. No macro, syntax, notation, axiom, sorry.
-/
import Derived.Test.YtlkjpammglljdabChecked
import GoSem.Claim
import GoSem.ClaimJoined
import GoSem.ClaimMapViews
import Derived.JoinedTies
import Derived.KernelRfl
namespace Go.Proofs.Ytlkjpammglljdab
/- THE CELL 'sum', in the pinned program and in every row, IS THE sha256 OF THE DUMP (.gsa) THAT YtlkjpammglljdabProg.lean LOADS. Nothing in Lean hashes anything: it is a label: what it is worth is what the hold of that sum in a sandbox is worth. -/
noncomputable def Try.pinned : Pinned := { name := "ytlkjpammglljdab", sum := "55a54653cb91fe7e39b5342189883eb1d2e8a201d588d639bdc507d94418e24d", checked := Try.checked }
namespace Rows
def none {H : Type} : Left H := { results := [], args := [] }

/-- 'laws.FnExactSharedMiddle': WHATEVER THE INPUT: true; the input reads as it did. -/
def fnExactSharedMiddleSpec : ChangeSpec := { name := "fnExactSharedMiddle", fn := fun _ => fun
  | [d] => { results := [.lit (.bool true)], args := [d] }
  | _ => none }
def fnExactSharedMiddleRow : OpenClaim := { program := "ytlkjpammglljdab", sum := "55a54653cb91fe7e39b5342189883eb1d2e8a201d588d639bdc507d94418e24d", func := "loop.example/g01203/laws.FnExactSharedMiddle", spec := "fnExactSharedMiddle", unfollowed := true, recurses := true, apart := false }
def FnExactSharedMiddleSaid : Prop := fnExactSharedMiddleRow.holds Try.pinned (OpenSpec.ofChange fnExactSharedMiddleSpec)

/-- ITS FALSE NEIGHBOUR: 'it returns false'. Refute it at one input. -/
def fnExactSharedMiddleWrong : ChangeSpec := { name := "fnExactSharedMiddle", fn := fun _ => fun
  | [d] => { results := [.lit (.bool false)], args := [d] }
  | _ => none }
def FnExactSharedMiddleWrongFalsely : Prop := fnExactSharedMiddleRow.holds Try.pinned (OpenSpec.ofChange fnExactSharedMiddleWrong)

/-- 'laws.FnExactMeanDiffer': WHATEVER THE INPUT: true; the input reads as it did. -/
def fnExactMeanDifferSpec : ChangeSpec := { name := "fnExactMeanDiffer", fn := fun _ => fun
  | [d] => { results := [.lit (.bool true)], args := [d] }
  | _ => none }
def fnExactMeanDifferRow : OpenClaim := { program := "ytlkjpammglljdab", sum := "55a54653cb91fe7e39b5342189883eb1d2e8a201d588d639bdc507d94418e24d", func := "loop.example/g01203/laws.FnExactMeanDiffer", spec := "fnExactMeanDiffer", unfollowed := true, recurses := true, apart := false }
def FnExactMeanDifferSaid : Prop := fnExactMeanDifferRow.holds Try.pinned (OpenSpec.ofChange fnExactMeanDifferSpec)

/-- ITS FALSE NEIGHBOUR: 'it returns false'. Refute it at one input. -/
def fnExactMeanDifferWrong : ChangeSpec := { name := "fnExactMeanDiffer", fn := fun _ => fun
  | [d] => { results := [.lit (.bool false)], args := [d] }
  | _ => none }
def FnExactMeanDifferWrongFalsely : Prop := fnExactMeanDifferRow.holds Try.pinned (OpenSpec.ofChange fnExactMeanDifferWrong)

/-- 'laws.FnExactMostInSpace': WHATEVER THE INPUT: true; the input reads as it did. -/
def fnExactMostInSpaceSpec : ChangeSpec := { name := "fnExactMostInSpace", fn := fun _ => fun
  | [d] => { results := [.lit (.bool true)], args := [d] }
  | _ => none }
def fnExactMostInSpaceRow : OpenClaim := { program := "ytlkjpammglljdab", sum := "55a54653cb91fe7e39b5342189883eb1d2e8a201d588d639bdc507d94418e24d", func := "loop.example/g01203/laws.FnExactMostInSpace", spec := "fnExactMostInSpace", unfollowed := true, recurses := true, apart := false }
def FnExactMostInSpaceSaid : Prop := fnExactMostInSpaceRow.holds Try.pinned (OpenSpec.ofChange fnExactMostInSpaceSpec)

/-- ITS FALSE NEIGHBOUR: 'it returns false'. Refute it at one input. -/
def fnExactMostInSpaceWrong : ChangeSpec := { name := "fnExactMostInSpace", fn := fun _ => fun
  | [d] => { results := [.lit (.bool false)], args := [d] }
  | _ => none }
def FnExactMostInSpaceWrongFalsely : Prop := fnExactMostInSpaceRow.holds Try.pinned (OpenSpec.ofChange fnExactMostInSpaceWrong)

/-- 'laws.FnExactIsGhost': WHATEVER THE INPUT: true; the input reads as it did. -/
def fnExactIsGhostSpec : ChangeSpec := { name := "fnExactIsGhost", fn := fun _ => fun
  | [d] => { results := [.lit (.bool true)], args := [d] }
  | _ => none }
def fnExactIsGhostRow : OpenClaim := { program := "ytlkjpammglljdab", sum := "55a54653cb91fe7e39b5342189883eb1d2e8a201d588d639bdc507d94418e24d", func := "loop.example/g01203/laws.FnExactIsGhost", spec := "fnExactIsGhost", unfollowed := true, recurses := true, apart := false }
def FnExactIsGhostSaid : Prop := fnExactIsGhostRow.holds Try.pinned (OpenSpec.ofChange fnExactIsGhostSpec)

/-- ITS FALSE NEIGHBOUR: 'it returns false'. Refute it at one input. -/
def fnExactIsGhostWrong : ChangeSpec := { name := "fnExactIsGhost", fn := fun _ => fun
  | [d] => { results := [.lit (.bool false)], args := [d] }
  | _ => none }
def FnExactIsGhostWrongFalsely : Prop := fnExactIsGhostRow.holds Try.pinned (OpenSpec.ofChange fnExactIsGhostWrong)

/-- 'laws.FnExactCountKinds': WHATEVER THE INPUT: true; the input reads as it did. -/
def fnExactCountKindsSpec : ChangeSpec := { name := "fnExactCountKinds", fn := fun _ => fun
  | [d] => { results := [.lit (.bool true)], args := [d] }
  | _ => none }
def fnExactCountKindsRow : OpenClaim := { program := "ytlkjpammglljdab", sum := "55a54653cb91fe7e39b5342189883eb1d2e8a201d588d639bdc507d94418e24d", func := "loop.example/g01203/laws.FnExactCountKinds", spec := "fnExactCountKinds", unfollowed := true, recurses := true, apart := false }
def FnExactCountKindsSaid : Prop := fnExactCountKindsRow.holds Try.pinned (OpenSpec.ofChange fnExactCountKindsSpec)

/-- ITS FALSE NEIGHBOUR: 'it returns false'. Refute it at one input. -/
def fnExactCountKindsWrong : ChangeSpec := { name := "fnExactCountKinds", fn := fun _ => fun
  | [d] => { results := [.lit (.bool false)], args := [d] }
  | _ => none }
def FnExactCountKindsWrongFalsely : Prop := fnExactCountKindsRow.holds Try.pinned (OpenSpec.ofChange fnExactCountKindsWrong)

/-- 'laws.FnExactBestThird': WHATEVER THE INPUT: true; the input reads as it did. -/
def fnExactBestThirdSpec : ChangeSpec := { name := "fnExactBestThird", fn := fun _ => fun
  | [d] => { results := [.lit (.bool true)], args := [d] }
  | _ => none }
def fnExactBestThirdRow : OpenClaim := { program := "ytlkjpammglljdab", sum := "55a54653cb91fe7e39b5342189883eb1d2e8a201d588d639bdc507d94418e24d", func := "loop.example/g01203/laws.FnExactBestThird", spec := "fnExactBestThird", unfollowed := true, recurses := true, apart := false }
def FnExactBestThirdSaid : Prop := fnExactBestThirdRow.holds Try.pinned (OpenSpec.ofChange fnExactBestThirdSpec)

/-- ITS FALSE NEIGHBOUR: 'it returns false'. Refute it at one input. -/
def fnExactBestThirdWrong : ChangeSpec := { name := "fnExactBestThird", fn := fun _ => fun
  | [d] => { results := [.lit (.bool false)], args := [d] }
  | _ => none }
def FnExactBestThirdWrongFalsely : Prop := fnExactBestThirdRow.holds Try.pinned (OpenSpec.ofChange fnExactBestThirdWrong)

/- THE SECOND FORM. 'bulk': how many values and letters a reading holds, each counted each time it is reached (what is shared counts as often as it is met; a slice's spare places count too). A statement '..UptoSaid' is the law's where the arguments, and the package variables that the reading takes, are together of bulk at most 1048576: NARROWER than '..Said'. Prove '..Said' where nothing that the law and all that it calls make is longer than what came in: it says more and counts as full. Else prove '..UptoSaid'. A law counts once. -/
mutual
def uptoBulk {H : Type} : DataW H → Nat
  | .lit (.string bytes) => bytes.length + 1
  | .lit _ => 1
  | .nil => 1
  | .ptr d => uptoBulk d + 1
  | .slice elems spare => uptoBulkAll elems + uptoBulkAll spare + 1
  | .agg parts => uptoBulkAll parts + 1
  | .iface _ d => uptoBulk d + 1
  | .map entries => uptoBulkEntries entries + 1
  | .held _ => 1
def uptoBulkAll {H : Type} : List (DataW H) → Nat
  | [] => 0
  | d :: r => uptoBulk d + uptoBulkAll r
def uptoBulkEntries {H : Type} : List (Lit × DataW H) → Nat
  | [] => 0
  | x :: r => uptoBulkEntry x + uptoBulkEntries r
def uptoBulkEntry {H : Type} : Lit × DataW H → Nat
  | (.string bytes, d) => bytes.length + uptoBulk d + 1
  | (_, d) => uptoBulk d + 1
 end
def uptoSmall : (H : Type) → List (DataW H) → Bool := fun _ ds => decide (uptoBulkAll ds ≤ 1048576)
def OpenSpec.upto (s : _root_.Go.ChangeSpec) : _root_.Go.OpenSpec := { _root_.Go.OpenSpec.ofChange s with cond := some uptoSmall }

/-- 'laws.FnExactSharedMiddle', WHERE WHAT IT READS IS OF BULK AT MOST 1048576: true; the input reads as it did. -/
def fnExactSharedMiddleUptoRow : OpenClaim := { program := "ytlkjpammglljdab", sum := "55a54653cb91fe7e39b5342189883eb1d2e8a201d588d639bdc507d94418e24d", func := "loop.example/g01203/laws.FnExactSharedMiddle", spec := "fnExactSharedMiddle", unfollowed := true, recurses := true, apart := false, narrowed := true }
def FnExactSharedMiddleUptoSaid : Prop := fnExactSharedMiddleUptoRow.holds Try.pinned (OpenSpec.upto fnExactSharedMiddleSpec)

/-- 'laws.FnExactMeanDiffer', WHERE WHAT IT READS IS OF BULK AT MOST 1048576: true; the input reads as it did. -/
def fnExactMeanDifferUptoRow : OpenClaim := { program := "ytlkjpammglljdab", sum := "55a54653cb91fe7e39b5342189883eb1d2e8a201d588d639bdc507d94418e24d", func := "loop.example/g01203/laws.FnExactMeanDiffer", spec := "fnExactMeanDiffer", unfollowed := true, recurses := true, apart := false, narrowed := true }
def FnExactMeanDifferUptoSaid : Prop := fnExactMeanDifferUptoRow.holds Try.pinned (OpenSpec.upto fnExactMeanDifferSpec)

/-- 'laws.FnExactMostInSpace', WHERE WHAT IT READS IS OF BULK AT MOST 1048576: true; the input reads as it did. -/
def fnExactMostInSpaceUptoRow : OpenClaim := { program := "ytlkjpammglljdab", sum := "55a54653cb91fe7e39b5342189883eb1d2e8a201d588d639bdc507d94418e24d", func := "loop.example/g01203/laws.FnExactMostInSpace", spec := "fnExactMostInSpace", unfollowed := true, recurses := true, apart := false, narrowed := true }
def FnExactMostInSpaceUptoSaid : Prop := fnExactMostInSpaceUptoRow.holds Try.pinned (OpenSpec.upto fnExactMostInSpaceSpec)

/-- 'laws.FnExactIsGhost', WHERE WHAT IT READS IS OF BULK AT MOST 1048576: true; the input reads as it did. -/
def fnExactIsGhostUptoRow : OpenClaim := { program := "ytlkjpammglljdab", sum := "55a54653cb91fe7e39b5342189883eb1d2e8a201d588d639bdc507d94418e24d", func := "loop.example/g01203/laws.FnExactIsGhost", spec := "fnExactIsGhost", unfollowed := true, recurses := true, apart := false, narrowed := true }
def FnExactIsGhostUptoSaid : Prop := fnExactIsGhostUptoRow.holds Try.pinned (OpenSpec.upto fnExactIsGhostSpec)

/-- 'laws.FnExactCountKinds', WHERE WHAT IT READS IS OF BULK AT MOST 1048576: true; the input reads as it did. -/
def fnExactCountKindsUptoRow : OpenClaim := { program := "ytlkjpammglljdab", sum := "55a54653cb91fe7e39b5342189883eb1d2e8a201d588d639bdc507d94418e24d", func := "loop.example/g01203/laws.FnExactCountKinds", spec := "fnExactCountKinds", unfollowed := true, recurses := true, apart := false, narrowed := true }
def FnExactCountKindsUptoSaid : Prop := fnExactCountKindsUptoRow.holds Try.pinned (OpenSpec.upto fnExactCountKindsSpec)

/-- 'laws.FnExactBestThird', WHERE WHAT IT READS IS OF BULK AT MOST 1048576: true; the input reads as it did. -/
def fnExactBestThirdUptoRow : OpenClaim := { program := "ytlkjpammglljdab", sum := "55a54653cb91fe7e39b5342189883eb1d2e8a201d588d639bdc507d94418e24d", func := "loop.example/g01203/laws.FnExactBestThird", spec := "fnExactBestThird", unfollowed := true, recurses := true, apart := false, narrowed := true }
def FnExactBestThirdUptoSaid : Prop := fnExactBestThirdUptoRow.holds Try.pinned (OpenSpec.upto fnExactBestThirdSpec)

end Rows
end Go.Proofs.Ytlkjpammglljdab
