/-
  No cell of these rows narrows 'for every input' (looked for: loops, veiled, ifaces, maps, wideKeys, modest, calm, conditions, laid).
  DERIVED. THE GIVEN ROWS OF THIS SEAT. 4 by the template 'for every input the law returns true; each argument reads behind the call as it read before'; 0 by the template 'total and deterministic' (their statements: YtenmnipgnjaheaaTotals.lean).
  GIVEN WITH THE SEED: the statements are not yours to turn. If you find one false, say at which input.
  Laid BY PROGRAM, IN A SANDBOX (cutbox-rows.mjs): the forced cells as the released guide's own fill.sh prints them over the translation dfc2a320a5da1dc2… (all of the seat's roots in one cut). By AI agents, Wed Nov 11 2026. No macro, syntax, notation, axiom, sorry.
-/
import Derived.Test.YtenmnipgnjaheaaChecked
import GoSem.Claim
import GoSem.ClaimJoined
import GoSem.ClaimMapViews
import Derived.JoinedTies
import Derived.KernelRfl
namespace Go.Proofs.Ytenmnipgnjaheaa
/- THE CELL 'sum', in the pinned program and in every row, IS THE sha256 OF THE DUMP (.gsa) THAT YtenmnipgnjaheaaProg.lean LOADS. Nothing in Lean hashes anything: it is a label: what it is worth is what the hold of that sum in a sandbox is worth. -/
noncomputable def Try.pinned : Pinned := { name := "ytenmnipgnjaheaa", sum := "dfc2a320a5da1dc25701a2195db17124eece40debe9a52fd06541db3c3493f3d", checked := Try.checked }
namespace Rows
def none {H : Type} : Left H := { results := [], args := [] }

/-- 'laws.FnExactQuadsIn': WHATEVER THE INPUT: true; the input reads as it did. -/
def fnExactQuadsInSpec : ChangeSpec := { name := "fnExactQuadsIn", fn := fun _ => fun
  | [d] => { results := [.lit (.bool true)], args := [d] }
  | _ => none }
def fnExactQuadsInRow : OpenClaim := { program := "ytenmnipgnjaheaa", sum := "dfc2a320a5da1dc25701a2195db17124eece40debe9a52fd06541db3c3493f3d", func := "loop.example/g01203/laws.FnExactQuadsIn", spec := "fnExactQuadsIn", unfollowed := true, recurses := true, apart := false }
def FnExactQuadsInSaid : Prop := fnExactQuadsInRow.holds Try.pinned (OpenSpec.ofChange fnExactQuadsInSpec)

/-- ITS FALSE NEIGHBOUR: 'it returns false'. Refute it at one input. -/
def fnExactQuadsInWrong : ChangeSpec := { name := "fnExactQuadsIn", fn := fun _ => fun
  | [d] => { results := [.lit (.bool false)], args := [d] }
  | _ => none }
def FnExactQuadsInWrongFalsely : Prop := fnExactQuadsInRow.holds Try.pinned (OpenSpec.ofChange fnExactQuadsInWrong)

/-- 'laws.FnExactCountPlanes': WHATEVER THE INPUT: true; the input reads as it did. -/
def fnExactCountPlanesSpec : ChangeSpec := { name := "fnExactCountPlanes", fn := fun _ => fun
  | [d] => { results := [.lit (.bool true)], args := [d] }
  | _ => none }
def fnExactCountPlanesRow : OpenClaim := { program := "ytenmnipgnjaheaa", sum := "dfc2a320a5da1dc25701a2195db17124eece40debe9a52fd06541db3c3493f3d", func := "loop.example/g01203/laws.FnExactCountPlanes", spec := "fnExactCountPlanes", unfollowed := true, recurses := true, apart := false }
def FnExactCountPlanesSaid : Prop := fnExactCountPlanesRow.holds Try.pinned (OpenSpec.ofChange fnExactCountPlanesSpec)

/-- ITS FALSE NEIGHBOUR: 'it returns false'. Refute it at one input. -/
def fnExactCountPlanesWrong : ChangeSpec := { name := "fnExactCountPlanes", fn := fun _ => fun
  | [d] => { results := [.lit (.bool false)], args := [d] }
  | _ => none }
def FnExactCountPlanesWrongFalsely : Prop := fnExactCountPlanesRow.holds Try.pinned (OpenSpec.ofChange fnExactCountPlanesWrong)

/-- 'laws.FnExactRankGame': WHATEVER THE INPUT: true; the input reads as it did. -/
def fnExactRankGameSpec : ChangeSpec := { name := "fnExactRankGame", fn := fun _ => fun
  | [d] => { results := [.lit (.bool true)], args := [d] }
  | _ => none }
def fnExactRankGameRow : OpenClaim := { program := "ytenmnipgnjaheaa", sum := "dfc2a320a5da1dc25701a2195db17124eece40debe9a52fd06541db3c3493f3d", func := "loop.example/g01203/laws.FnExactRankGame", spec := "fnExactRankGame", unfollowed := true, recurses := true, apart := false }
def FnExactRankGameSaid : Prop := fnExactRankGameRow.holds Try.pinned (OpenSpec.ofChange fnExactRankGameSpec)

/-- ITS FALSE NEIGHBOUR: 'it returns false'. Refute it at one input. -/
def fnExactRankGameWrong : ChangeSpec := { name := "fnExactRankGame", fn := fun _ => fun
  | [d] => { results := [.lit (.bool false)], args := [d] }
  | _ => none }
def FnExactRankGameWrongFalsely : Prop := fnExactRankGameRow.holds Try.pinned (OpenSpec.ofChange fnExactRankGameWrong)

/-- 'laws.FnExactMiddlesOf': WHATEVER THE INPUT: true; the input reads as it did. -/
def fnExactMiddlesOfSpec : ChangeSpec := { name := "fnExactMiddlesOf", fn := fun _ => fun
  | [d1, d2, d3, d4] => { results := [.lit (.bool true)], args := [d1, d2, d3, d4] }
  | _ => none }
def fnExactMiddlesOfRow : OpenClaim := { program := "ytenmnipgnjaheaa", sum := "dfc2a320a5da1dc25701a2195db17124eece40debe9a52fd06541db3c3493f3d", func := "loop.example/g01203/laws.FnExactMiddlesOf", spec := "fnExactMiddlesOf", unfollowed := true, recurses := true, apart := false }
def FnExactMiddlesOfSaid : Prop := fnExactMiddlesOfRow.holds Try.pinned (OpenSpec.ofChange fnExactMiddlesOfSpec)

/-- ITS FALSE NEIGHBOUR: 'it returns false'. Refute it at one input. -/
def fnExactMiddlesOfWrong : ChangeSpec := { name := "fnExactMiddlesOf", fn := fun _ => fun
  | [d1, d2, d3, d4] => { results := [.lit (.bool false)], args := [d1, d2, d3, d4] }
  | _ => none }
def FnExactMiddlesOfWrongFalsely : Prop := fnExactMiddlesOfRow.holds Try.pinned (OpenSpec.ofChange fnExactMiddlesOfWrong)

/- THE SECOND FORM. 'bulk': how many values and letters a reading holds, each counted each time it is reached (what is shared counts as often as it is met; a slice's spare places count too). A statement '..UptoSaid' is the law's where the arguments, and the package variables that the reading takes, are together of bulk at most 1048576: NARROWER than '..Said'. Prove '..Said' where nothing that the law and all that it calls make is longer than what came in: it says more and counts as full. Else prove '..UptoSaid'. A law counts once. -/
mutual
def uptoBulk {H : Type} : DataW H → Nat
  | .lit (.string bytes) => bytes.length + 1
  | .lit _ => 1
  | .nil => 1
  | .ptr d => uptoBulk d + 1
  | .slice elems spare => uptoBulkAll elems + uptoBulkAll spare + 1
  | .agg parts => uptoBulkAll parts + 1
  | .iface _ d => uptoBulk d + 1
  | .map entries => uptoBulkEntries entries + 1
  | .held _ => 1
def uptoBulkAll {H : Type} : List (DataW H) → Nat
  | [] => 0
  | d :: r => uptoBulk d + uptoBulkAll r
def uptoBulkEntries {H : Type} : List (Lit × DataW H) → Nat
  | [] => 0
  | x :: r => uptoBulkEntry x + uptoBulkEntries r
def uptoBulkEntry {H : Type} : Lit × DataW H → Nat
  | (.string bytes, d) => bytes.length + uptoBulk d + 1
  | (_, d) => uptoBulk d + 1
 end
def uptoSmall : (H : Type) → List (DataW H) → Bool := fun _ ds => decide (uptoBulkAll ds ≤ 1048576)
def OpenSpec.upto (s : _root_.Go.ChangeSpec) : _root_.Go.OpenSpec := { _root_.Go.OpenSpec.ofChange s with cond := some uptoSmall }

/-- 'laws.FnExactQuadsIn', WHERE WHAT IT READS IS OF BULK AT MOST 1048576: true; the input reads as it did. -/
def fnExactQuadsInUptoRow : OpenClaim := { program := "ytenmnipgnjaheaa", sum := "dfc2a320a5da1dc25701a2195db17124eece40debe9a52fd06541db3c3493f3d", func := "loop.example/g01203/laws.FnExactQuadsIn", spec := "fnExactQuadsIn", unfollowed := true, recurses := true, apart := false, narrowed := true }
def FnExactQuadsInUptoSaid : Prop := fnExactQuadsInUptoRow.holds Try.pinned (OpenSpec.upto fnExactQuadsInSpec)

/-- 'laws.FnExactCountPlanes', WHERE WHAT IT READS IS OF BULK AT MOST 1048576: true; the input reads as it did. -/
def fnExactCountPlanesUptoRow : OpenClaim := { program := "ytenmnipgnjaheaa", sum := "dfc2a320a5da1dc25701a2195db17124eece40debe9a52fd06541db3c3493f3d", func := "loop.example/g01203/laws.FnExactCountPlanes", spec := "fnExactCountPlanes", unfollowed := true, recurses := true, apart := false, narrowed := true }
def FnExactCountPlanesUptoSaid : Prop := fnExactCountPlanesUptoRow.holds Try.pinned (OpenSpec.upto fnExactCountPlanesSpec)

/-- 'laws.FnExactRankGame', WHERE WHAT IT READS IS OF BULK AT MOST 1048576: true; the input reads as it did. -/
def fnExactRankGameUptoRow : OpenClaim := { program := "ytenmnipgnjaheaa", sum := "dfc2a320a5da1dc25701a2195db17124eece40debe9a52fd06541db3c3493f3d", func := "loop.example/g01203/laws.FnExactRankGame", spec := "fnExactRankGame", unfollowed := true, recurses := true, apart := false, narrowed := true }
def FnExactRankGameUptoSaid : Prop := fnExactRankGameUptoRow.holds Try.pinned (OpenSpec.upto fnExactRankGameSpec)

/-- 'laws.FnExactMiddlesOf', WHERE WHAT IT READS IS OF BULK AT MOST 1048576: true; the input reads as it did. -/
def fnExactMiddlesOfUptoRow : OpenClaim := { program := "ytenmnipgnjaheaa", sum := "dfc2a320a5da1dc25701a2195db17124eece40debe9a52fd06541db3c3493f3d", func := "loop.example/g01203/laws.FnExactMiddlesOf", spec := "fnExactMiddlesOf", unfollowed := true, recurses := true, apart := false, narrowed := true }
def FnExactMiddlesOfUptoSaid : Prop := fnExactMiddlesOfUptoRow.holds Try.pinned (OpenSpec.upto fnExactMiddlesOfSpec)

end Rows
end Go.Proofs.Ytenmnipgnjaheaa
