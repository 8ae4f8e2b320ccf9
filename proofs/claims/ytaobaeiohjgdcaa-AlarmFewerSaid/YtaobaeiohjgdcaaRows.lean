/-
  No cell of these rows narrows 'for every input' (looked for: loops, veiled, ifaces, maps, wideKeys, modest, calm, conditions, laid).
  DERIVED. THE GIVEN ROWS OF THIS SEAT. 12 by the template 'for every input the law returns true; each argument reads behind the call as it read before'; 0 by the template 'total and deterministic' (their statements: YtaobaeiohjgdcaaTotals.lean).
  GIVEN WITH THE SEED: the statements are not yours to turn. If you find one false, say at which input.
  Laid BY PROGRAM, IN A SANDBOX (cutbox-rows.mjs): the forced cells as the released guide's own fill.sh prints them over the translation 52977f0baa903b77… (all of the seat's roots in one cut). By AI agents, Wed Nov 11 2026. No macro, syntax, notation, axiom, sorry.
-/
import Derived.Test.YtaobaeiohjgdcaaChecked
import GoSem.Claim
import GoSem.ClaimJoined
import GoSem.ClaimMapViews
import Derived.JoinedTies
import Derived.KernelRfl
namespace Go.Proofs.Ytaobaeiohjgdcaa
/- THE CELL 'sum', in the pinned program and in every row, IS THE sha256 OF THE DUMP (.gsa) THAT YtaobaeiohjgdcaaProg.lean LOADS. Nothing in Lean hashes anything: it is a label: what it is worth is what the hold of that sum in a sandbox is worth. -/
noncomputable def Try.pinned : Pinned := { name := "ytaobaeiohjgdcaa", sum := "52977f0baa903b77c85e9ab58078bee62d6cbf655741f69d181ec663772014de", checked := Try.checked }
namespace Rows
def none {H : Type} : Left H := { results := [], args := [] }

/-- 'landfalllaw23.AlarmMatchesReference': WHATEVER THE INPUT: true; the input reads as it did. -/
def alarmMatchesReferenceSpec : ChangeSpec := { name := "alarmMatchesReference", fn := fun _ => fun
  | [d1, d2, d3] => { results := [.lit (.bool true)], args := [d1, d2, d3] }
  | _ => none }
def alarmMatchesReferenceRow : OpenClaim := { program := "ytaobaeiohjgdcaa", sum := "52977f0baa903b77c85e9ab58078bee62d6cbf655741f69d181ec663772014de", func := "landfall/landfalllaw23.AlarmMatchesReference", spec := "alarmMatchesReference", unfollowed := true, recurses := true, apart := false }
def AlarmMatchesReferenceSaid : Prop := alarmMatchesReferenceRow.holds Try.pinned (OpenSpec.ofChange alarmMatchesReferenceSpec)

/-- ITS FALSE NEIGHBOUR: 'it returns false'. Refute it at one input. -/
def alarmMatchesReferenceWrong : ChangeSpec := { name := "alarmMatchesReference", fn := fun _ => fun
  | [d1, d2, d3] => { results := [.lit (.bool false)], args := [d1, d2, d3] }
  | _ => none }
def AlarmMatchesReferenceWrongFalsely : Prop := alarmMatchesReferenceRow.holds Try.pinned (OpenSpec.ofChange alarmMatchesReferenceWrong)

/-- 'landfalllaw23.AlarmFirst': WHATEVER THE INPUT: true; the input reads as it did. -/
def alarmFirstSpec : ChangeSpec := { name := "alarmFirst", fn := fun _ => fun
  | [d1, d2] => { results := [.lit (.bool true)], args := [d1, d2] }
  | _ => none }
def alarmFirstRow : OpenClaim := { program := "ytaobaeiohjgdcaa", sum := "52977f0baa903b77c85e9ab58078bee62d6cbf655741f69d181ec663772014de", func := "landfall/landfalllaw23.AlarmFirst", spec := "alarmFirst", unfollowed := true, recurses := true, apart := false }
def AlarmFirstSaid : Prop := alarmFirstRow.holds Try.pinned (OpenSpec.ofChange alarmFirstSpec)

/-- ITS FALSE NEIGHBOUR: 'it returns false'. Refute it at one input. -/
def alarmFirstWrong : ChangeSpec := { name := "alarmFirst", fn := fun _ => fun
  | [d1, d2] => { results := [.lit (.bool false)], args := [d1, d2] }
  | _ => none }
def AlarmFirstWrongFalsely : Prop := alarmFirstRow.holds Try.pinned (OpenSpec.ofChange alarmFirstWrong)

/-- 'landfalllaw23.AlarmExplained': WHATEVER THE INPUT: true; the input reads as it did. -/
def alarmExplainedSpec : ChangeSpec := { name := "alarmExplained", fn := fun _ => fun
  | [d1, d2, d3] => { results := [.lit (.bool true)], args := [d1, d2, d3] }
  | _ => none }
def alarmExplainedRow : OpenClaim := { program := "ytaobaeiohjgdcaa", sum := "52977f0baa903b77c85e9ab58078bee62d6cbf655741f69d181ec663772014de", func := "landfall/landfalllaw23.AlarmExplained", spec := "alarmExplained", unfollowed := true, recurses := true, apart := false }
def AlarmExplainedSaid : Prop := alarmExplainedRow.holds Try.pinned (OpenSpec.ofChange alarmExplainedSpec)

/-- ITS FALSE NEIGHBOUR: 'it returns false'. Refute it at one input. -/
def alarmExplainedWrong : ChangeSpec := { name := "alarmExplained", fn := fun _ => fun
  | [d1, d2, d3] => { results := [.lit (.bool false)], args := [d1, d2, d3] }
  | _ => none }
def AlarmExplainedWrongFalsely : Prop := alarmExplainedRow.holds Try.pinned (OpenSpec.ofChange alarmExplainedWrong)

/-- 'landfalllaw03.HullMatchesReference': WHATEVER THE INPUT: true; the input reads as it did. -/
def hullMatchesReferenceSpec : ChangeSpec := { name := "hullMatchesReference", fn := fun _ => fun
  | [d1, d2, d3] => { results := [.lit (.bool true)], args := [d1, d2, d3] }
  | _ => none }
def hullMatchesReferenceRow : OpenClaim := { program := "ytaobaeiohjgdcaa", sum := "52977f0baa903b77c85e9ab58078bee62d6cbf655741f69d181ec663772014de", func := "landfall/landfalllaw03.HullMatchesReference", spec := "hullMatchesReference", unfollowed := true, recurses := true, apart := false }
def HullMatchesReferenceSaid : Prop := hullMatchesReferenceRow.holds Try.pinned (OpenSpec.ofChange hullMatchesReferenceSpec)

/-- ITS FALSE NEIGHBOUR: 'it returns false'. Refute it at one input. -/
def hullMatchesReferenceWrong : ChangeSpec := { name := "hullMatchesReference", fn := fun _ => fun
  | [d1, d2, d3] => { results := [.lit (.bool false)], args := [d1, d2, d3] }
  | _ => none }
def HullMatchesReferenceWrongFalsely : Prop := hullMatchesReferenceRow.holds Try.pinned (OpenSpec.ofChange hullMatchesReferenceWrong)

/-- 'landfalllaw03.HullLeast': WHATEVER THE INPUT: true; the input reads as it did. -/
def hullLeastSpec : ChangeSpec := { name := "hullLeast", fn := fun _ => fun
  | [d1, d2] => { results := [.lit (.bool true)], args := [d1, d2] }
  | _ => none }
def hullLeastRow : OpenClaim := { program := "ytaobaeiohjgdcaa", sum := "52977f0baa903b77c85e9ab58078bee62d6cbf655741f69d181ec663772014de", func := "landfall/landfalllaw03.HullLeast", spec := "hullLeast", unfollowed := true, recurses := true, apart := false }
def HullLeastSaid : Prop := hullLeastRow.holds Try.pinned (OpenSpec.ofChange hullLeastSpec)

/-- ITS FALSE NEIGHBOUR: 'it returns false'. Refute it at one input. -/
def hullLeastWrong : ChangeSpec := { name := "hullLeast", fn := fun _ => fun
  | [d1, d2] => { results := [.lit (.bool false)], args := [d1, d2] }
  | _ => none }
def HullLeastWrongFalsely : Prop := hullLeastRow.holds Try.pinned (OpenSpec.ofChange hullLeastWrong)

/-- 'landfalllaw03.HullOrder': WHATEVER THE INPUT: true; the input reads as it did. -/
def hullOrderSpec : ChangeSpec := { name := "hullOrder", fn := fun _ => fun
  | [d1, d2] => { results := [.lit (.bool true)], args := [d1, d2] }
  | _ => none }
def hullOrderRow : OpenClaim := { program := "ytaobaeiohjgdcaa", sum := "52977f0baa903b77c85e9ab58078bee62d6cbf655741f69d181ec663772014de", func := "landfall/landfalllaw03.HullOrder", spec := "hullOrder", unfollowed := true, recurses := true, apart := false }
def HullOrderSaid : Prop := hullOrderRow.holds Try.pinned (OpenSpec.ofChange hullOrderSpec)

/-- ITS FALSE NEIGHBOUR: 'it returns false'. Refute it at one input. -/
def hullOrderWrong : ChangeSpec := { name := "hullOrder", fn := fun _ => fun
  | [d1, d2] => { results := [.lit (.bool false)], args := [d1, d2] }
  | _ => none }
def HullOrderWrongFalsely : Prop := hullOrderRow.holds Try.pinned (OpenSpec.ofChange hullOrderWrong)

/-- 'landfalllaw03.HullConvex': WHATEVER THE INPUT: true; the input reads as it did. -/
def hullConvexSpec : ChangeSpec := { name := "hullConvex", fn := fun _ => fun
  | [d1, d2, d3] => { results := [.lit (.bool true)], args := [d1, d2, d3] }
  | _ => none }
def hullConvexRow : OpenClaim := { program := "ytaobaeiohjgdcaa", sum := "52977f0baa903b77c85e9ab58078bee62d6cbf655741f69d181ec663772014de", func := "landfall/landfalllaw03.HullConvex", spec := "hullConvex", unfollowed := true, recurses := true, apart := false }
def HullConvexSaid : Prop := hullConvexRow.holds Try.pinned (OpenSpec.ofChange hullConvexSpec)

/-- ITS FALSE NEIGHBOUR: 'it returns false'. Refute it at one input. -/
def hullConvexWrong : ChangeSpec := { name := "hullConvex", fn := fun _ => fun
  | [d1, d2, d3] => { results := [.lit (.bool false)], args := [d1, d2, d3] }
  | _ => none }
def HullConvexWrongFalsely : Prop := hullConvexRow.holds Try.pinned (OpenSpec.ofChange hullConvexWrong)

/-- 'landfalllaw03.HullBoxes': WHATEVER THE INPUT: true; the input reads as it did. -/
def hullBoxesSpec : ChangeSpec := { name := "hullBoxes", fn := fun _ => fun
  | [d1, d2] => { results := [.lit (.bool true)], args := [d1, d2] }
  | _ => none }
def hullBoxesRow : OpenClaim := { program := "ytaobaeiohjgdcaa", sum := "52977f0baa903b77c85e9ab58078bee62d6cbf655741f69d181ec663772014de", func := "landfall/landfalllaw03.HullBoxes", spec := "hullBoxes", unfollowed := true, recurses := true, apart := false }
def HullBoxesSaid : Prop := hullBoxesRow.holds Try.pinned (OpenSpec.ofChange hullBoxesSpec)

/-- ITS FALSE NEIGHBOUR: 'it returns false'. Refute it at one input. -/
def hullBoxesWrong : ChangeSpec := { name := "hullBoxes", fn := fun _ => fun
  | [d1, d2] => { results := [.lit (.bool false)], args := [d1, d2] }
  | _ => none }
def HullBoxesWrongFalsely : Prop := hullBoxesRow.holds Try.pinned (OpenSpec.ofChange hullBoxesWrong)

/-- 'landfalllaw03.HullAreas': WHATEVER THE INPUT: true; the input reads as it did. -/
def hullAreasSpec : ChangeSpec := { name := "hullAreas", fn := fun _ => fun
  | [d1, d2] => { results := [.lit (.bool true)], args := [d1, d2] }
  | _ => none }
def hullAreasRow : OpenClaim := { program := "ytaobaeiohjgdcaa", sum := "52977f0baa903b77c85e9ab58078bee62d6cbf655741f69d181ec663772014de", func := "landfall/landfalllaw03.HullAreas", spec := "hullAreas", unfollowed := true, recurses := true, apart := false }
def HullAreasSaid : Prop := hullAreasRow.holds Try.pinned (OpenSpec.ofChange hullAreasSpec)

/-- ITS FALSE NEIGHBOUR: 'it returns false'. Refute it at one input. -/
def hullAreasWrong : ChangeSpec := { name := "hullAreas", fn := fun _ => fun
  | [d1, d2] => { results := [.lit (.bool false)], args := [d1, d2] }
  | _ => none }
def HullAreasWrongFalsely : Prop := hullAreasRow.holds Try.pinned (OpenSpec.ofChange hullAreasWrong)

/-- 'landfalllaw03.HullFurther': WHATEVER THE INPUT: true; the input reads as it did. -/
def hullFurtherSpec : ChangeSpec := { name := "hullFurther", fn := fun _ => fun
  | [d1, d2] => { results := [.lit (.bool true)], args := [d1, d2] }
  | _ => none }
def hullFurtherRow : OpenClaim := { program := "ytaobaeiohjgdcaa", sum := "52977f0baa903b77c85e9ab58078bee62d6cbf655741f69d181ec663772014de", func := "landfall/landfalllaw03.HullFurther", spec := "hullFurther", unfollowed := true, recurses := true, apart := false }
def HullFurtherSaid : Prop := hullFurtherRow.holds Try.pinned (OpenSpec.ofChange hullFurtherSpec)

/-- ITS FALSE NEIGHBOUR: 'it returns false'. Refute it at one input. -/
def hullFurtherWrong : ChangeSpec := { name := "hullFurther", fn := fun _ => fun
  | [d1, d2] => { results := [.lit (.bool false)], args := [d1, d2] }
  | _ => none }
def HullFurtherWrongFalsely : Prop := hullFurtherRow.holds Try.pinned (OpenSpec.ofChange hullFurtherWrong)

/-- 'landfalllaw23.AlarmFewer': WHATEVER THE INPUT: true; the input reads as it did. -/
def alarmFewerSpec : ChangeSpec := { name := "alarmFewer", fn := fun _ => fun
  | [d1, d2, d3, d4] => { results := [.lit (.bool true)], args := [d1, d2, d3, d4] }
  | _ => none }
def alarmFewerRow : OpenClaim := { program := "ytaobaeiohjgdcaa", sum := "52977f0baa903b77c85e9ab58078bee62d6cbf655741f69d181ec663772014de", func := "landfall/landfalllaw23.AlarmFewer", spec := "alarmFewer", unfollowed := true, recurses := true, apart := false }
def AlarmFewerSaid : Prop := alarmFewerRow.holds Try.pinned (OpenSpec.ofChange alarmFewerSpec)

/-- ITS FALSE NEIGHBOUR: 'it returns false'. Refute it at one input. -/
def alarmFewerWrong : ChangeSpec := { name := "alarmFewer", fn := fun _ => fun
  | [d1, d2, d3, d4] => { results := [.lit (.bool false)], args := [d1, d2, d3, d4] }
  | _ => none }
def AlarmFewerWrongFalsely : Prop := alarmFewerRow.holds Try.pinned (OpenSpec.ofChange alarmFewerWrong)

/-- 'landfalllaw23.AlarmMoved': WHATEVER THE INPUT: true; the input reads as it did. -/
def alarmMovedSpec : ChangeSpec := { name := "alarmMoved", fn := fun _ => fun
  | [d1, d2, d3] => { results := [.lit (.bool true)], args := [d1, d2, d3] }
  | _ => none }
def alarmMovedRow : OpenClaim := { program := "ytaobaeiohjgdcaa", sum := "52977f0baa903b77c85e9ab58078bee62d6cbf655741f69d181ec663772014de", func := "landfall/landfalllaw23.AlarmMoved", spec := "alarmMoved", unfollowed := true, recurses := true, apart := false }
def AlarmMovedSaid : Prop := alarmMovedRow.holds Try.pinned (OpenSpec.ofChange alarmMovedSpec)

/-- ITS FALSE NEIGHBOUR: 'it returns false'. Refute it at one input. -/
def alarmMovedWrong : ChangeSpec := { name := "alarmMoved", fn := fun _ => fun
  | [d1, d2, d3] => { results := [.lit (.bool false)], args := [d1, d2, d3] }
  | _ => none }
def AlarmMovedWrongFalsely : Prop := alarmMovedRow.holds Try.pinned (OpenSpec.ofChange alarmMovedWrong)

/- THE SECOND FORM. 'bulk': how many values and letters a reading holds, each counted each time it is reached (what is shared counts as often as it is met; a slice's spare places count too). A statement '..UptoSaid' is the law's where the arguments, and the package variables that the reading takes, are together of bulk at most 1048576: NARROWER than '..Said'. Prove '..Said' where nothing that the law and all that it calls make is longer than what came in: it says more and counts as full. Else prove '..UptoSaid'. A law counts once. -/
mutual
def uptoBulk {H : Type} : DataW H → Nat
  | .lit (.string bytes) => bytes.length + 1
  | .lit _ => 1
  | .nil => 1
  | .ptr d => uptoBulk d + 1
  | .slice elems spare => uptoBulkAll elems + uptoBulkAll spare + 1
  | .agg parts => uptoBulkAll parts + 1
  | .iface _ d => uptoBulk d + 1
  | .map entries => uptoBulkEntries entries + 1
  | .held _ => 1
def uptoBulkAll {H : Type} : List (DataW H) → Nat
  | [] => 0
  | d :: r => uptoBulk d + uptoBulkAll r
def uptoBulkEntries {H : Type} : List (Lit × DataW H) → Nat
  | [] => 0
  | x :: r => uptoBulkEntry x + uptoBulkEntries r
def uptoBulkEntry {H : Type} : Lit × DataW H → Nat
  | (.string bytes, d) => bytes.length + uptoBulk d + 1
  | (_, d) => uptoBulk d + 1
 end
def uptoSmall : (H : Type) → List (DataW H) → Bool := fun _ ds => decide (uptoBulkAll ds ≤ 1048576)
def OpenSpec.upto (s : _root_.Go.ChangeSpec) : _root_.Go.OpenSpec := { _root_.Go.OpenSpec.ofChange s with cond := some uptoSmall }

/-- 'landfalllaw23.AlarmMatchesReference', WHERE WHAT IT READS IS OF BULK AT MOST 1048576: true; the input reads as it did. -/
def alarmMatchesReferenceUptoRow : OpenClaim := { program := "ytaobaeiohjgdcaa", sum := "52977f0baa903b77c85e9ab58078bee62d6cbf655741f69d181ec663772014de", func := "landfall/landfalllaw23.AlarmMatchesReference", spec := "alarmMatchesReference", unfollowed := true, recurses := true, apart := false, narrowed := true }
def AlarmMatchesReferenceUptoSaid : Prop := alarmMatchesReferenceUptoRow.holds Try.pinned (OpenSpec.upto alarmMatchesReferenceSpec)

/-- 'landfalllaw23.AlarmFirst', WHERE WHAT IT READS IS OF BULK AT MOST 1048576: true; the input reads as it did. -/
def alarmFirstUptoRow : OpenClaim := { program := "ytaobaeiohjgdcaa", sum := "52977f0baa903b77c85e9ab58078bee62d6cbf655741f69d181ec663772014de", func := "landfall/landfalllaw23.AlarmFirst", spec := "alarmFirst", unfollowed := true, recurses := true, apart := false, narrowed := true }
def AlarmFirstUptoSaid : Prop := alarmFirstUptoRow.holds Try.pinned (OpenSpec.upto alarmFirstSpec)

/-- 'landfalllaw23.AlarmExplained', WHERE WHAT IT READS IS OF BULK AT MOST 1048576: true; the input reads as it did. -/
def alarmExplainedUptoRow : OpenClaim := { program := "ytaobaeiohjgdcaa", sum := "52977f0baa903b77c85e9ab58078bee62d6cbf655741f69d181ec663772014de", func := "landfall/landfalllaw23.AlarmExplained", spec := "alarmExplained", unfollowed := true, recurses := true, apart := false, narrowed := true }
def AlarmExplainedUptoSaid : Prop := alarmExplainedUptoRow.holds Try.pinned (OpenSpec.upto alarmExplainedSpec)

/-- 'landfalllaw03.HullMatchesReference', WHERE WHAT IT READS IS OF BULK AT MOST 1048576: true; the input reads as it did. -/
def hullMatchesReferenceUptoRow : OpenClaim := { program := "ytaobaeiohjgdcaa", sum := "52977f0baa903b77c85e9ab58078bee62d6cbf655741f69d181ec663772014de", func := "landfall/landfalllaw03.HullMatchesReference", spec := "hullMatchesReference", unfollowed := true, recurses := true, apart := false, narrowed := true }
def HullMatchesReferenceUptoSaid : Prop := hullMatchesReferenceUptoRow.holds Try.pinned (OpenSpec.upto hullMatchesReferenceSpec)

/-- 'landfalllaw03.HullLeast', WHERE WHAT IT READS IS OF BULK AT MOST 1048576: true; the input reads as it did. -/
def hullLeastUptoRow : OpenClaim := { program := "ytaobaeiohjgdcaa", sum := "52977f0baa903b77c85e9ab58078bee62d6cbf655741f69d181ec663772014de", func := "landfall/landfalllaw03.HullLeast", spec := "hullLeast", unfollowed := true, recurses := true, apart := false, narrowed := true }
def HullLeastUptoSaid : Prop := hullLeastUptoRow.holds Try.pinned (OpenSpec.upto hullLeastSpec)

/-- 'landfalllaw03.HullOrder', WHERE WHAT IT READS IS OF BULK AT MOST 1048576: true; the input reads as it did. -/
def hullOrderUptoRow : OpenClaim := { program := "ytaobaeiohjgdcaa", sum := "52977f0baa903b77c85e9ab58078bee62d6cbf655741f69d181ec663772014de", func := "landfall/landfalllaw03.HullOrder", spec := "hullOrder", unfollowed := true, recurses := true, apart := false, narrowed := true }
def HullOrderUptoSaid : Prop := hullOrderUptoRow.holds Try.pinned (OpenSpec.upto hullOrderSpec)

/-- 'landfalllaw03.HullConvex', WHERE WHAT IT READS IS OF BULK AT MOST 1048576: true; the input reads as it did. -/
def hullConvexUptoRow : OpenClaim := { program := "ytaobaeiohjgdcaa", sum := "52977f0baa903b77c85e9ab58078bee62d6cbf655741f69d181ec663772014de", func := "landfall/landfalllaw03.HullConvex", spec := "hullConvex", unfollowed := true, recurses := true, apart := false, narrowed := true }
def HullConvexUptoSaid : Prop := hullConvexUptoRow.holds Try.pinned (OpenSpec.upto hullConvexSpec)

/-- 'landfalllaw03.HullBoxes', WHERE WHAT IT READS IS OF BULK AT MOST 1048576: true; the input reads as it did. -/
def hullBoxesUptoRow : OpenClaim := { program := "ytaobaeiohjgdcaa", sum := "52977f0baa903b77c85e9ab58078bee62d6cbf655741f69d181ec663772014de", func := "landfall/landfalllaw03.HullBoxes", spec := "hullBoxes", unfollowed := true, recurses := true, apart := false, narrowed := true }
def HullBoxesUptoSaid : Prop := hullBoxesUptoRow.holds Try.pinned (OpenSpec.upto hullBoxesSpec)

/-- 'landfalllaw03.HullAreas', WHERE WHAT IT READS IS OF BULK AT MOST 1048576: true; the input reads as it did. -/
def hullAreasUptoRow : OpenClaim := { program := "ytaobaeiohjgdcaa", sum := "52977f0baa903b77c85e9ab58078bee62d6cbf655741f69d181ec663772014de", func := "landfall/landfalllaw03.HullAreas", spec := "hullAreas", unfollowed := true, recurses := true, apart := false, narrowed := true }
def HullAreasUptoSaid : Prop := hullAreasUptoRow.holds Try.pinned (OpenSpec.upto hullAreasSpec)

/-- 'landfalllaw03.HullFurther', WHERE WHAT IT READS IS OF BULK AT MOST 1048576: true; the input reads as it did. -/
def hullFurtherUptoRow : OpenClaim := { program := "ytaobaeiohjgdcaa", sum := "52977f0baa903b77c85e9ab58078bee62d6cbf655741f69d181ec663772014de", func := "landfall/landfalllaw03.HullFurther", spec := "hullFurther", unfollowed := true, recurses := true, apart := false, narrowed := true }
def HullFurtherUptoSaid : Prop := hullFurtherUptoRow.holds Try.pinned (OpenSpec.upto hullFurtherSpec)

/-- 'landfalllaw23.AlarmFewer', WHERE WHAT IT READS IS OF BULK AT MOST 1048576: true; the input reads as it did. -/
def alarmFewerUptoRow : OpenClaim := { program := "ytaobaeiohjgdcaa", sum := "52977f0baa903b77c85e9ab58078bee62d6cbf655741f69d181ec663772014de", func := "landfall/landfalllaw23.AlarmFewer", spec := "alarmFewer", unfollowed := true, recurses := true, apart := false, narrowed := true }
def AlarmFewerUptoSaid : Prop := alarmFewerUptoRow.holds Try.pinned (OpenSpec.upto alarmFewerSpec)

/-- 'landfalllaw23.AlarmMoved', WHERE WHAT IT READS IS OF BULK AT MOST 1048576: true; the input reads as it did. -/
def alarmMovedUptoRow : OpenClaim := { program := "ytaobaeiohjgdcaa", sum := "52977f0baa903b77c85e9ab58078bee62d6cbf655741f69d181ec663772014de", func := "landfall/landfalllaw23.AlarmMoved", spec := "alarmMoved", unfollowed := true, recurses := true, apart := false, narrowed := true }
def AlarmMovedUptoSaid : Prop := alarmMovedUptoRow.holds Try.pinned (OpenSpec.upto alarmMovedSpec)

end Rows
end Go.Proofs.Ytaobaeiohjgdcaa
