/-
  No cell of these rows narrows 'for every input' (looked for: loops, veiled, ifaces, maps, wideKeys, modest, calm, conditions, laid).
  DERIVED. THE GIVEN ROWS OF THIS SEAT. 6 by the template 'for every input the law returns true; each argument reads behind the call as it read before'; 0 by the template 'total and deterministic' (their statements: YthiamiilgdkclaaTotals.lean).
  GIVEN WITH THE SEED: the statements are not yours to turn. If you find one false, say at which input.
  Laid BY PROGRAM, IN A SANDBOX (cutbox-rows.mjs): the forced cells as the released guide's own fill.sh prints them over the translation 97fe00db8010f55b… (all of the seat's roots in one cut). By AI agents, Wed Nov 11 2026. No macro, syntax, notation, axiom, sorry.
-/
import Derived.Test.YthiamiilgdkclaaChecked
import GoSem.Claim
import GoSem.ClaimJoined
import GoSem.ClaimMapViews
import Derived.JoinedTies
import Derived.KernelRfl
namespace Go.Proofs.Ythiamiilgdkclaa
/- THE CELL 'sum', in the pinned program and in every row, IS THE sha256 OF THE DUMP (.gsa) THAT YthiamiilgdkclaaProg.lean LOADS. Nothing in Lean hashes anything: it is a label: what it is worth is what the hold of that sum in a sandbox is worth. -/
noncomputable def Try.pinned : Pinned := { name := "ythiamiilgdkclaa", sum := "97fe00db8010f55b581d98a7135283d8caf511879f397e7eac6b5a6491571eb3", checked := Try.checked }
namespace Rows
def none {H : Type} : Left H := { results := [], args := [] }

/-- 'laws.FnExactNewGame': WHATEVER THE INPUT: true; the input reads as it did. -/
def fnExactNewGameSpec : ChangeSpec := { name := "fnExactNewGame", fn := fun _ => fun
  | [d1, d2] => { results := [.lit (.bool true)], args := [d1, d2] }
  | _ => none }
def fnExactNewGameRow : OpenClaim := { program := "ythiamiilgdkclaa", sum := "97fe00db8010f55b581d98a7135283d8caf511879f397e7eac6b5a6491571eb3", func := "loop.example/g01203/laws.FnExactNewGame", spec := "fnExactNewGame", apart := false }
def FnExactNewGameSaid : Prop := fnExactNewGameRow.holds Try.pinned (OpenSpec.ofChange fnExactNewGameSpec)

/-- ITS FALSE NEIGHBOUR: 'it returns false'. Refute it at one input. -/
def fnExactNewGameWrong : ChangeSpec := { name := "fnExactNewGame", fn := fun _ => fun
  | [d1, d2] => { results := [.lit (.bool false)], args := [d1, d2] }
  | _ => none }
def FnExactNewGameWrongFalsely : Prop := fnExactNewGameRow.holds Try.pinned (OpenSpec.ofChange fnExactNewGameWrong)

/-- 'laws.FnExactChanceLine': WHATEVER THE INPUT: true; the input reads as it did. -/
def fnExactChanceLineSpec : ChangeSpec := { name := "fnExactChanceLine", fn := fun _ => fun
  | [d] => { results := [.lit (.bool true)], args := [d] }
  | _ => none }
def fnExactChanceLineRow : OpenClaim := { program := "ythiamiilgdkclaa", sum := "97fe00db8010f55b581d98a7135283d8caf511879f397e7eac6b5a6491571eb3", func := "loop.example/g01203/laws.FnExactChanceLine", spec := "fnExactChanceLine", unfollowed := true, recurses := true, apart := false }
def FnExactChanceLineSaid : Prop := fnExactChanceLineRow.holds Try.pinned (OpenSpec.ofChange fnExactChanceLineSpec)

/-- ITS FALSE NEIGHBOUR: 'it returns false'. Refute it at one input. -/
def fnExactChanceLineWrong : ChangeSpec := { name := "fnExactChanceLine", fn := fun _ => fun
  | [d] => { results := [.lit (.bool false)], args := [d] }
  | _ => none }
def FnExactChanceLineWrongFalsely : Prop := fnExactChanceLineRow.holds Try.pinned (OpenSpec.ofChange fnExactChanceLineWrong)

/-- 'laws.FnExactCountCrossings': WHATEVER THE INPUT: true; the input reads as it did. -/
def fnExactCountCrossingsSpec : ChangeSpec := { name := "fnExactCountCrossings", fn := fun _ => fun
  | [d] => { results := [.lit (.bool true)], args := [d] }
  | _ => none }
def fnExactCountCrossingsRow : OpenClaim := { program := "ythiamiilgdkclaa", sum := "97fe00db8010f55b581d98a7135283d8caf511879f397e7eac6b5a6491571eb3", func := "loop.example/g01203/laws.FnExactCountCrossings", spec := "fnExactCountCrossings", unfollowed := true, recurses := true, apart := false }
def FnExactCountCrossingsSaid : Prop := fnExactCountCrossingsRow.holds Try.pinned (OpenSpec.ofChange fnExactCountCrossingsSpec)

/-- ITS FALSE NEIGHBOUR: 'it returns false'. Refute it at one input. -/
def fnExactCountCrossingsWrong : ChangeSpec := { name := "fnExactCountCrossings", fn := fun _ => fun
  | [d] => { results := [.lit (.bool false)], args := [d] }
  | _ => none }
def FnExactCountCrossingsWrongFalsely : Prop := fnExactCountCrossingsRow.holds Try.pinned (OpenSpec.ofChange fnExactCountCrossingsWrong)

/-- 'laws.FnExactSpacesWith': WHATEVER THE INPUT: true; the input reads as it did. -/
def fnExactSpacesWithSpec : ChangeSpec := { name := "fnExactSpacesWith", fn := fun _ => fun
  | [d] => { results := [.lit (.bool true)], args := [d] }
  | _ => none }
def fnExactSpacesWithRow : OpenClaim := { program := "ythiamiilgdkclaa", sum := "97fe00db8010f55b581d98a7135283d8caf511879f397e7eac6b5a6491571eb3", func := "loop.example/g01203/laws.FnExactSpacesWith", spec := "fnExactSpacesWith", unfollowed := true, recurses := true, apart := false }
def FnExactSpacesWithSaid : Prop := fnExactSpacesWithRow.holds Try.pinned (OpenSpec.ofChange fnExactSpacesWithSpec)

/-- ITS FALSE NEIGHBOUR: 'it returns false'. Refute it at one input. -/
def fnExactSpacesWithWrong : ChangeSpec := { name := "fnExactSpacesWith", fn := fun _ => fun
  | [d] => { results := [.lit (.bool false)], args := [d] }
  | _ => none }
def FnExactSpacesWithWrongFalsely : Prop := fnExactSpacesWithRow.holds Try.pinned (OpenSpec.ofChange fnExactSpacesWithWrong)

/-- 'laws.FnExactNearLines': WHATEVER THE INPUT: true; the input reads as it did. -/
def fnExactNearLinesSpec : ChangeSpec := { name := "fnExactNearLines", fn := fun _ => fun
  | [d] => { results := [.lit (.bool true)], args := [d] }
  | _ => none }
def fnExactNearLinesRow : OpenClaim := { program := "ythiamiilgdkclaa", sum := "97fe00db8010f55b581d98a7135283d8caf511879f397e7eac6b5a6491571eb3", func := "loop.example/g01203/laws.FnExactNearLines", spec := "fnExactNearLines", unfollowed := true, recurses := true, apart := false }
def FnExactNearLinesSaid : Prop := fnExactNearLinesRow.holds Try.pinned (OpenSpec.ofChange fnExactNearLinesSpec)

/-- ITS FALSE NEIGHBOUR: 'it returns false'. Refute it at one input. -/
def fnExactNearLinesWrong : ChangeSpec := { name := "fnExactNearLines", fn := fun _ => fun
  | [d] => { results := [.lit (.bool false)], args := [d] }
  | _ => none }
def FnExactNearLinesWrongFalsely : Prop := fnExactNearLinesRow.holds Try.pinned (OpenSpec.ofChange fnExactNearLinesWrong)

/-- 'laws.FnExactLineCounts': WHATEVER THE INPUT: true; the input reads as it did. -/
def fnExactLineCountsSpec : ChangeSpec := { name := "fnExactLineCounts", fn := fun _ => fun
  | [d] => { results := [.lit (.bool true)], args := [d] }
  | _ => none }
def fnExactLineCountsRow : OpenClaim := { program := "ythiamiilgdkclaa", sum := "97fe00db8010f55b581d98a7135283d8caf511879f397e7eac6b5a6491571eb3", func := "loop.example/g01203/laws.FnExactLineCounts", spec := "fnExactLineCounts", unfollowed := true, recurses := true, apart := false }
def FnExactLineCountsSaid : Prop := fnExactLineCountsRow.holds Try.pinned (OpenSpec.ofChange fnExactLineCountsSpec)

/-- ITS FALSE NEIGHBOUR: 'it returns false'. Refute it at one input. -/
def fnExactLineCountsWrong : ChangeSpec := { name := "fnExactLineCounts", fn := fun _ => fun
  | [d] => { results := [.lit (.bool false)], args := [d] }
  | _ => none }
def FnExactLineCountsWrongFalsely : Prop := fnExactLineCountsRow.holds Try.pinned (OpenSpec.ofChange fnExactLineCountsWrong)

/- THE SECOND FORM. 'bulk': how many values and letters a reading holds, each counted each time it is reached (what is shared counts as often as it is met; a slice's spare places count too). A statement '..UptoSaid' is the law's where the arguments, and the package variables that the reading takes, are together of bulk at most 1048576: NARROWER than '..Said'. Prove '..Said' where nothing that the law and all that it calls make is longer than what came in: it says more and counts as full. Else prove '..UptoSaid'. A law counts once. -/
mutual
def uptoBulk {H : Type} : DataW H → Nat
  | .lit (.string bytes) => bytes.length + 1
  | .lit _ => 1
  | .nil => 1
  | .ptr d => uptoBulk d + 1
  | .slice elems spare => uptoBulkAll elems + uptoBulkAll spare + 1
  | .agg parts => uptoBulkAll parts + 1
  | .iface _ d => uptoBulk d + 1
  | .map entries => uptoBulkEntries entries + 1
  | .held _ => 1
def uptoBulkAll {H : Type} : List (DataW H) → Nat
  | [] => 0
  | d :: r => uptoBulk d + uptoBulkAll r
def uptoBulkEntries {H : Type} : List (Lit × DataW H) → Nat
  | [] => 0
  | x :: r => uptoBulkEntry x + uptoBulkEntries r
def uptoBulkEntry {H : Type} : Lit × DataW H → Nat
  | (.string bytes, d) => bytes.length + uptoBulk d + 1
  | (_, d) => uptoBulk d + 1
 end
def uptoSmall : (H : Type) → List (DataW H) → Bool := fun _ ds => decide (uptoBulkAll ds ≤ 1048576)
def OpenSpec.upto (s : _root_.Go.ChangeSpec) : _root_.Go.OpenSpec := { _root_.Go.OpenSpec.ofChange s with cond := some uptoSmall }

/-- 'laws.FnExactNewGame', WHERE WHAT IT READS IS OF BULK AT MOST 1048576: true; the input reads as it did. -/
def fnExactNewGameUptoRow : OpenClaim := { program := "ythiamiilgdkclaa", sum := "97fe00db8010f55b581d98a7135283d8caf511879f397e7eac6b5a6491571eb3", func := "loop.example/g01203/laws.FnExactNewGame", spec := "fnExactNewGame", apart := false, narrowed := true }
def FnExactNewGameUptoSaid : Prop := fnExactNewGameUptoRow.holds Try.pinned (OpenSpec.upto fnExactNewGameSpec)

/-- 'laws.FnExactChanceLine', WHERE WHAT IT READS IS OF BULK AT MOST 1048576: true; the input reads as it did. -/
def fnExactChanceLineUptoRow : OpenClaim := { program := "ythiamiilgdkclaa", sum := "97fe00db8010f55b581d98a7135283d8caf511879f397e7eac6b5a6491571eb3", func := "loop.example/g01203/laws.FnExactChanceLine", spec := "fnExactChanceLine", unfollowed := true, recurses := true, apart := false, narrowed := true }
def FnExactChanceLineUptoSaid : Prop := fnExactChanceLineUptoRow.holds Try.pinned (OpenSpec.upto fnExactChanceLineSpec)

/-- 'laws.FnExactCountCrossings', WHERE WHAT IT READS IS OF BULK AT MOST 1048576: true; the input reads as it did. -/
def fnExactCountCrossingsUptoRow : OpenClaim := { program := "ythiamiilgdkclaa", sum := "97fe00db8010f55b581d98a7135283d8caf511879f397e7eac6b5a6491571eb3", func := "loop.example/g01203/laws.FnExactCountCrossings", spec := "fnExactCountCrossings", unfollowed := true, recurses := true, apart := false, narrowed := true }
def FnExactCountCrossingsUptoSaid : Prop := fnExactCountCrossingsUptoRow.holds Try.pinned (OpenSpec.upto fnExactCountCrossingsSpec)

/-- 'laws.FnExactSpacesWith', WHERE WHAT IT READS IS OF BULK AT MOST 1048576: true; the input reads as it did. -/
def fnExactSpacesWithUptoRow : OpenClaim := { program := "ythiamiilgdkclaa", sum := "97fe00db8010f55b581d98a7135283d8caf511879f397e7eac6b5a6491571eb3", func := "loop.example/g01203/laws.FnExactSpacesWith", spec := "fnExactSpacesWith", unfollowed := true, recurses := true, apart := false, narrowed := true }
def FnExactSpacesWithUptoSaid : Prop := fnExactSpacesWithUptoRow.holds Try.pinned (OpenSpec.upto fnExactSpacesWithSpec)

/-- 'laws.FnExactNearLines', WHERE WHAT IT READS IS OF BULK AT MOST 1048576: true; the input reads as it did. -/
def fnExactNearLinesUptoRow : OpenClaim := { program := "ythiamiilgdkclaa", sum := "97fe00db8010f55b581d98a7135283d8caf511879f397e7eac6b5a6491571eb3", func := "loop.example/g01203/laws.FnExactNearLines", spec := "fnExactNearLines", unfollowed := true, recurses := true, apart := false, narrowed := true }
def FnExactNearLinesUptoSaid : Prop := fnExactNearLinesUptoRow.holds Try.pinned (OpenSpec.upto fnExactNearLinesSpec)

/-- 'laws.FnExactLineCounts', WHERE WHAT IT READS IS OF BULK AT MOST 1048576: true; the input reads as it did. -/
def fnExactLineCountsUptoRow : OpenClaim := { program := "ythiamiilgdkclaa", sum := "97fe00db8010f55b581d98a7135283d8caf511879f397e7eac6b5a6491571eb3", func := "loop.example/g01203/laws.FnExactLineCounts", spec := "fnExactLineCounts", unfollowed := true, recurses := true, apart := false, narrowed := true }
def FnExactLineCountsUptoSaid : Prop := fnExactLineCountsUptoRow.holds Try.pinned (OpenSpec.upto fnExactLineCountsSpec)

end Rows
end Go.Proofs.Ythiamiilgdkclaa
