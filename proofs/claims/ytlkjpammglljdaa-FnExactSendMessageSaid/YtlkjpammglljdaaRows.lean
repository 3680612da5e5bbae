/-
  No cell of these rows narrows 'for every input' (looked for: loops, veiled, ifaces, maps, wideKeys, modest, calm, conditions, laid).
  DERIVED. THE GIVEN ROWS OF THIS SEAT. 6 by the template 'for every input the law returns true; each argument reads behind the call as it read before'; 0 by the template 'total and deterministic' (their statements: YtlkjpammglljdaaTotals.lean).
  GIVEN WITH THE SEED: the statements are not yours to turn. If you find one false, say at which input.
  Laid BY PROGRAM, IN A SANDBOX (cutbox-rows.mjs): the forced cells as the released guide's own fill.sh prints them over the translation b66715dc1bc0f1a9… (all of the seat's roots in one cut). By AI agents, Wed Nov 11 2026. No macro, syntax, notation, axiom, sorry.
-/
import Derived.Test.YtlkjpammglljdaaChecked
import GoSem.Claim
import GoSem.ClaimJoined
import GoSem.ClaimMapViews
import Derived.JoinedTies
import Derived.KernelRfl
namespace Go.Proofs.Ytlkjpammglljdaa
/- THE CELL 'sum', in the pinned program and in every row, IS THE sha256 OF THE DUMP (.gsa) THAT YtlkjpammglljdaaProg.lean LOADS. Nothing in Lean hashes anything: it is a label: what it is worth is what the hold of that sum in a sandbox is worth. -/
noncomputable def Try.pinned : Pinned := { name := "ytlkjpammglljdaa", sum := "b66715dc1bc0f1a9bedbf96558700802ef9b51814196f715e01bbf21b2152792", checked := Try.checked }
namespace Rows
def none {H : Type} : Left H := { results := [], args := [] }

/-- 'laws.FnExactSendMessage': WHATEVER THE INPUT: true; the input reads as it did. -/
def fnExactSendMessageSpec : ChangeSpec := { name := "fnExactSendMessage", fn := fun _ => fun
  | [d] => { results := [.lit (.bool true)], args := [d] }
  | _ => none }
def fnExactSendMessageRow : OpenClaim := { program := "ytlkjpammglljdaa", sum := "b66715dc1bc0f1a9bedbf96558700802ef9b51814196f715e01bbf21b2152792", func := "loop.example/g01203/laws.FnExactSendMessage", spec := "fnExactSendMessage", unfollowed := true, recurses := true, apart := false }
def FnExactSendMessageSaid : Prop := fnExactSendMessageRow.holds Try.pinned (OpenSpec.ofChange fnExactSendMessageSpec)

/-- ITS FALSE NEIGHBOUR: 'it returns false'. Refute it at one input. -/
def fnExactSendMessageWrong : ChangeSpec := { name := "fnExactSendMessage", fn := fun _ => fun
  | [d] => { results := [.lit (.bool false)], args := [d] }
  | _ => none }
def FnExactSendMessageWrongFalsely : Prop := fnExactSendMessageRow.holds Try.pinned (OpenSpec.ofChange fnExactSendMessageWrong)

/-- 'laws.FnExactSumGhost': WHATEVER THE INPUT: true; the input reads as it did. -/
def fnExactSumGhostSpec : ChangeSpec := { name := "fnExactSumGhost", fn := fun _ => fun
  | [d] => { results := [.lit (.bool true)], args := [d] }
  | _ => none }
def fnExactSumGhostRow : OpenClaim := { program := "ytlkjpammglljdaa", sum := "b66715dc1bc0f1a9bedbf96558700802ef9b51814196f715e01bbf21b2152792", func := "loop.example/g01203/laws.FnExactSumGhost", spec := "fnExactSumGhost", unfollowed := true, recurses := true, apart := false }
def FnExactSumGhostSaid : Prop := fnExactSumGhostRow.holds Try.pinned (OpenSpec.ofChange fnExactSumGhostSpec)

/-- ITS FALSE NEIGHBOUR: 'it returns false'. Refute it at one input. -/
def fnExactSumGhostWrong : ChangeSpec := { name := "fnExactSumGhost", fn := fun _ => fun
  | [d] => { results := [.lit (.bool false)], args := [d] }
  | _ => none }
def FnExactSumGhostWrongFalsely : Prop := fnExactSumGhostRow.holds Try.pinned (OpenSpec.ofChange fnExactSumGhostWrong)

/-- 'laws.FnExactOpenPairs': WHATEVER THE INPUT: true; the input reads as it did. -/
def fnExactOpenPairsSpec : ChangeSpec := { name := "fnExactOpenPairs", fn := fun _ => fun
  | [d] => { results := [.lit (.bool true)], args := [d] }
  | _ => none }
def fnExactOpenPairsRow : OpenClaim := { program := "ytlkjpammglljdaa", sum := "b66715dc1bc0f1a9bedbf96558700802ef9b51814196f715e01bbf21b2152792", func := "loop.example/g01203/laws.FnExactOpenPairs", spec := "fnExactOpenPairs", unfollowed := true, recurses := true, apart := false }
def FnExactOpenPairsSaid : Prop := fnExactOpenPairsRow.holds Try.pinned (OpenSpec.ofChange fnExactOpenPairsSpec)

/-- ITS FALSE NEIGHBOUR: 'it returns false'. Refute it at one input. -/
def fnExactOpenPairsWrong : ChangeSpec := { name := "fnExactOpenPairs", fn := fun _ => fun
  | [d] => { results := [.lit (.bool false)], args := [d] }
  | _ => none }
def FnExactOpenPairsWrongFalsely : Prop := fnExactOpenPairsRow.holds Try.pinned (OpenSpec.ofChange fnExactOpenPairsWrong)

/-- 'laws.FnExactSplitBy': WHATEVER THE INPUT: true; the input reads as it did. -/
def fnExactSplitBySpec : ChangeSpec := { name := "fnExactSplitBy", fn := fun _ => fun
  | [d1, d2] => { results := [.lit (.bool true)], args := [d1, d2] }
  | _ => none }
def fnExactSplitByRow : OpenClaim := { program := "ytlkjpammglljdaa", sum := "b66715dc1bc0f1a9bedbf96558700802ef9b51814196f715e01bbf21b2152792", func := "loop.example/g01203/laws.FnExactSplitBy", spec := "fnExactSplitBy", unfollowed := true, recurses := true, apart := false }
def FnExactSplitBySaid : Prop := fnExactSplitByRow.holds Try.pinned (OpenSpec.ofChange fnExactSplitBySpec)

/-- ITS FALSE NEIGHBOUR: 'it returns false'. Refute it at one input. -/
def fnExactSplitByWrong : ChangeSpec := { name := "fnExactSplitBy", fn := fun _ => fun
  | [d1, d2] => { results := [.lit (.bool false)], args := [d1, d2] }
  | _ => none }
def FnExactSplitByWrongFalsely : Prop := fnExactSplitByRow.holds Try.pinned (OpenSpec.ofChange fnExactSplitByWrong)

/-- 'laws.FnExactHasQuad': WHATEVER THE INPUT: true; the input reads as it did. -/
def fnExactHasQuadSpec : ChangeSpec := { name := "fnExactHasQuad", fn := fun _ => fun
  | [d] => { results := [.lit (.bool true)], args := [d] }
  | _ => none }
def fnExactHasQuadRow : OpenClaim := { program := "ytlkjpammglljdaa", sum := "b66715dc1bc0f1a9bedbf96558700802ef9b51814196f715e01bbf21b2152792", func := "loop.example/g01203/laws.FnExactHasQuad", spec := "fnExactHasQuad", unfollowed := true, recurses := true, apart := false }
def FnExactHasQuadSaid : Prop := fnExactHasQuadRow.holds Try.pinned (OpenSpec.ofChange fnExactHasQuadSpec)

/-- ITS FALSE NEIGHBOUR: 'it returns false'. Refute it at one input. -/
def fnExactHasQuadWrong : ChangeSpec := { name := "fnExactHasQuad", fn := fun _ => fun
  | [d] => { results := [.lit (.bool false)], args := [d] }
  | _ => none }
def FnExactHasQuadWrongFalsely : Prop := fnExactHasQuadRow.holds Try.pinned (OpenSpec.ofChange fnExactHasQuadWrong)

/-- 'laws.FnExactChanceTrait': WHATEVER THE INPUT: true; the input reads as it did. -/
def fnExactChanceTraitSpec : ChangeSpec := { name := "fnExactChanceTrait", fn := fun _ => fun
  | [d1, d2, d3] => { results := [.lit (.bool true)], args := [d1, d2, d3] }
  | _ => none }
def fnExactChanceTraitRow : OpenClaim := { program := "ytlkjpammglljdaa", sum := "b66715dc1bc0f1a9bedbf96558700802ef9b51814196f715e01bbf21b2152792", func := "loop.example/g01203/laws.FnExactChanceTrait", spec := "fnExactChanceTrait", unfollowed := true, recurses := true, apart := false }
def FnExactChanceTraitSaid : Prop := fnExactChanceTraitRow.holds Try.pinned (OpenSpec.ofChange fnExactChanceTraitSpec)

/-- ITS FALSE NEIGHBOUR: 'it returns false'. Refute it at one input. -/
def fnExactChanceTraitWrong : ChangeSpec := { name := "fnExactChanceTrait", fn := fun _ => fun
  | [d1, d2, d3] => { results := [.lit (.bool false)], args := [d1, d2, d3] }
  | _ => none }
def FnExactChanceTraitWrongFalsely : Prop := fnExactChanceTraitRow.holds Try.pinned (OpenSpec.ofChange fnExactChanceTraitWrong)

/- THE SECOND FORM. 'bulk': how many values and letters a reading holds, each counted each time it is reached (what is shared counts as often as it is met; a slice's spare places count too). A statement '..UptoSaid' is the law's where the arguments, and the package variables that the reading takes, are together of bulk at most 1048576: NARROWER than '..Said'. Prove '..Said' where nothing that the law and all that it calls make is longer than what came in: it says more and counts as full. Else prove '..UptoSaid'. A law counts once. -/
mutual
def uptoBulk {H : Type} : DataW H → Nat
  | .lit (.string bytes) => bytes.length + 1
  | .lit _ => 1
  | .nil => 1
  | .ptr d => uptoBulk d + 1
  | .slice elems spare => uptoBulkAll elems + uptoBulkAll spare + 1
  | .agg parts => uptoBulkAll parts + 1
  | .iface _ d => uptoBulk d + 1
  | .map entries => uptoBulkEntries entries + 1
  | .held _ => 1
def uptoBulkAll {H : Type} : List (DataW H) → Nat
  | [] => 0
  | d :: r => uptoBulk d + uptoBulkAll r
def uptoBulkEntries {H : Type} : List (Lit × DataW H) → Nat
  | [] => 0
  | x :: r => uptoBulkEntry x + uptoBulkEntries r
def uptoBulkEntry {H : Type} : Lit × DataW H → Nat
  | (.string bytes, d) => bytes.length + uptoBulk d + 1
  | (_, d) => uptoBulk d + 1
 end
def uptoSmall : (H : Type) → List (DataW H) → Bool := fun _ ds => decide (uptoBulkAll ds ≤ 1048576)
def OpenSpec.upto (s : _root_.Go.ChangeSpec) : _root_.Go.OpenSpec := { _root_.Go.OpenSpec.ofChange s with cond := some uptoSmall }

/-- 'laws.FnExactSendMessage', WHERE WHAT IT READS IS OF BULK AT MOST 1048576: true; the input reads as it did. -/
def fnExactSendMessageUptoRow : OpenClaim := { program := "ytlkjpammglljdaa", sum := "b66715dc1bc0f1a9bedbf96558700802ef9b51814196f715e01bbf21b2152792", func := "loop.example/g01203/laws.FnExactSendMessage", spec := "fnExactSendMessage", unfollowed := true, recurses := true, apart := false, narrowed := true }
def FnExactSendMessageUptoSaid : Prop := fnExactSendMessageUptoRow.holds Try.pinned (OpenSpec.upto fnExactSendMessageSpec)

/-- 'laws.FnExactSumGhost', WHERE WHAT IT READS IS OF BULK AT MOST 1048576: true; the input reads as it did. -/
def fnExactSumGhostUptoRow : OpenClaim := { program := "ytlkjpammglljdaa", sum := "b66715dc1bc0f1a9bedbf96558700802ef9b51814196f715e01bbf21b2152792", func := "loop.example/g01203/laws.FnExactSumGhost", spec := "fnExactSumGhost", unfollowed := true, recurses := true, apart := false, narrowed := true }
def FnExactSumGhostUptoSaid : Prop := fnExactSumGhostUptoRow.holds Try.pinned (OpenSpec.upto fnExactSumGhostSpec)

/-- 'laws.FnExactOpenPairs', WHERE WHAT IT READS IS OF BULK AT MOST 1048576: true; the input reads as it did. -/
def fnExactOpenPairsUptoRow : OpenClaim := { program := "ytlkjpammglljdaa", sum := "b66715dc1bc0f1a9bedbf96558700802ef9b51814196f715e01bbf21b2152792", func := "loop.example/g01203/laws.FnExactOpenPairs", spec := "fnExactOpenPairs", unfollowed := true, recurses := true, apart := false, narrowed := true }
def FnExactOpenPairsUptoSaid : Prop := fnExactOpenPairsUptoRow.holds Try.pinned (OpenSpec.upto fnExactOpenPairsSpec)

/-- 'laws.FnExactSplitBy', WHERE WHAT IT READS IS OF BULK AT MOST 1048576: true; the input reads as it did. -/
def fnExactSplitByUptoRow : OpenClaim := { program := "ytlkjpammglljdaa", sum := "b66715dc1bc0f1a9bedbf96558700802ef9b51814196f715e01bbf21b2152792", func := "loop.example/g01203/laws.FnExactSplitBy", spec := "fnExactSplitBy", unfollowed := true, recurses := true, apart := false, narrowed := true }
def FnExactSplitByUptoSaid : Prop := fnExactSplitByUptoRow.holds Try.pinned (OpenSpec.upto fnExactSplitBySpec)

/-- 'laws.FnExactHasQuad', WHERE WHAT IT READS IS OF BULK AT MOST 1048576: true; the input reads as it did. -/
def fnExactHasQuadUptoRow : OpenClaim := { program := "ytlkjpammglljdaa", sum := "b66715dc1bc0f1a9bedbf96558700802ef9b51814196f715e01bbf21b2152792", func := "loop.example/g01203/laws.FnExactHasQuad", spec := "fnExactHasQuad", unfollowed := true, recurses := true, apart := false, narrowed := true }
def FnExactHasQuadUptoSaid : Prop := fnExactHasQuadUptoRow.holds Try.pinned (OpenSpec.upto fnExactHasQuadSpec)

/-- 'laws.FnExactChanceTrait', WHERE WHAT IT READS IS OF BULK AT MOST 1048576: true; the input reads as it did. -/
def fnExactChanceTraitUptoRow : OpenClaim := { program := "ytlkjpammglljdaa", sum := "b66715dc1bc0f1a9bedbf96558700802ef9b51814196f715e01bbf21b2152792", func := "loop.example/g01203/laws.FnExactChanceTrait", spec := "fnExactChanceTrait", unfollowed := true, recurses := true, apart := false, narrowed := true }
def FnExactChanceTraitUptoSaid : Prop := fnExactChanceTraitUptoRow.holds Try.pinned (OpenSpec.upto fnExactChanceTraitSpec)

end Rows
end Go.Proofs.Ytlkjpammglljdaa
