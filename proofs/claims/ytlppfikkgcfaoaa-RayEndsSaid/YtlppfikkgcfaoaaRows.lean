/-
  No cell of these rows narrows 'for every input' (looked for: loops, veiled, ifaces, maps, wideKeys, modest, calm, conditions, laid).
  DERIVED. THE GIVEN ROWS OF THIS SEAT. 11 by the template 'for every input the law returns true; each argument reads behind the call as it read before'; 0 by the template 'total and deterministic' (their statements: YtlppfikkgcfaoaaTotals.lean).
  GIVEN WITH THE SEED: the statements are not yours to turn. If you find one false, say at which input.
  Laid BY PROGRAM, IN A SANDBOX (cutbox-rows.mjs): the forced cells as the released guide's own fill.sh prints them over the translation b34634dbd5284d2d… (all of the seat's roots in one cut). By AI agents, Wed Nov 11 2026. No macro, syntax, notation, axiom, sorry.
-/
import Derived.Test.YtlppfikkgcfaoaaChecked
import GoSem.Claim
import GoSem.ClaimJoined
import GoSem.ClaimMapViews
import Derived.JoinedTies
import Derived.KernelRfl
namespace Go.Proofs.Ytlppfikkgcfaoaa
/- THE CELL 'sum', in the pinned program and in every row, IS THE sha256 OF THE DUMP (.gsa) THAT YtlppfikkgcfaoaaProg.lean LOADS. Nothing in Lean hashes anything: it is a label: what it is worth is what the hold of that sum in a sandbox is worth. -/
noncomputable def Try.pinned : Pinned := { name := "ytlppfikkgcfaoaa", sum := "b34634dbd5284d2ddce54b8f7d9104bb6514df79cee8ae06a5854ee24f56dd8a", checked := Try.checked }
namespace Rows
def none {H : Type} : Left H := { results := [], args := [] }

/-- 'landfalllaw13.TideWithin': WHATEVER THE INPUT: true; the input reads as it did. -/
def tideWithinSpec : ChangeSpec := { name := "tideWithin", fn := fun _ => fun
  | [d1, d2, d3, d4, d5, d6, d7, d8] => { results := [.lit (.bool true)], args := [d1, d2, d3, d4, d5, d6, d7, d8] }
  | _ => none }
def tideWithinRow : OpenClaim := { program := "ytlppfikkgcfaoaa", sum := "b34634dbd5284d2ddce54b8f7d9104bb6514df79cee8ae06a5854ee24f56dd8a", func := "landfall/landfalllaw13.TideWithin", spec := "tideWithin", unfollowed := true, recurses := true, apart := false }
def TideWithinSaid : Prop := tideWithinRow.holds Try.pinned (OpenSpec.ofChange tideWithinSpec)

/-- ITS FALSE NEIGHBOUR: 'it returns false'. Refute it at one input. -/
def tideWithinWrong : ChangeSpec := { name := "tideWithin", fn := fun _ => fun
  | [d1, d2, d3, d4, d5, d6, d7, d8] => { results := [.lit (.bool false)], args := [d1, d2, d3, d4, d5, d6, d7, d8] }
  | _ => none }
def TideWithinWrongFalsely : Prop := tideWithinRow.holds Try.pinned (OpenSpec.ofChange tideWithinWrong)

/-- 'landfalllaw13.TideLeast': WHATEVER THE INPUT: true; the input reads as it did. -/
def tideLeastSpec : ChangeSpec := { name := "tideLeast", fn := fun _ => fun
  | [d1, d2, d3, d4, d5] => { results := [.lit (.bool true)], args := [d1, d2, d3, d4, d5] }
  | _ => none }
def tideLeastRow : OpenClaim := { program := "ytlppfikkgcfaoaa", sum := "b34634dbd5284d2ddce54b8f7d9104bb6514df79cee8ae06a5854ee24f56dd8a", func := "landfall/landfalllaw13.TideLeast", spec := "tideLeast", unfollowed := true, recurses := true, apart := false }
def TideLeastSaid : Prop := tideLeastRow.holds Try.pinned (OpenSpec.ofChange tideLeastSpec)

/-- ITS FALSE NEIGHBOUR: 'it returns false'. Refute it at one input. -/
def tideLeastWrong : ChangeSpec := { name := "tideLeast", fn := fun _ => fun
  | [d1, d2, d3, d4, d5] => { results := [.lit (.bool false)], args := [d1, d2, d3, d4, d5] }
  | _ => none }
def TideLeastWrongFalsely : Prop := tideLeastRow.holds Try.pinned (OpenSpec.ofChange tideLeastWrong)

/-- 'landfalllaw13.TideGreater': WHATEVER THE INPUT: true; the input reads as it did. -/
def tideGreaterSpec : ChangeSpec := { name := "tideGreater", fn := fun _ => fun
  | [d1, d2, d3, d4, d5, d6, d7, d8] => { results := [.lit (.bool true)], args := [d1, d2, d3, d4, d5, d6, d7, d8] }
  | _ => none }
def tideGreaterRow : OpenClaim := { program := "ytlppfikkgcfaoaa", sum := "b34634dbd5284d2ddce54b8f7d9104bb6514df79cee8ae06a5854ee24f56dd8a", func := "landfall/landfalllaw13.TideGreater", spec := "tideGreater", unfollowed := true, recurses := true, apart := false }
def TideGreaterSaid : Prop := tideGreaterRow.holds Try.pinned (OpenSpec.ofChange tideGreaterSpec)

/-- ITS FALSE NEIGHBOUR: 'it returns false'. Refute it at one input. -/
def tideGreaterWrong : ChangeSpec := { name := "tideGreater", fn := fun _ => fun
  | [d1, d2, d3, d4, d5, d6, d7, d8] => { results := [.lit (.bool false)], args := [d1, d2, d3, d4, d5, d6, d7, d8] }
  | _ => none }
def TideGreaterWrongFalsely : Prop := tideGreaterRow.holds Try.pinned (OpenSpec.ofChange tideGreaterWrong)

/-- 'landfalllaw13.TideElsewhere': WHATEVER THE INPUT: true; the input reads as it did. -/
def tideElsewhereSpec : ChangeSpec := { name := "tideElsewhere", fn := fun _ => fun
  | [d1, d2, d3, d4, d5, d6] => { results := [.lit (.bool true)], args := [d1, d2, d3, d4, d5, d6] }
  | _ => none }
def tideElsewhereRow : OpenClaim := { program := "ytlppfikkgcfaoaa", sum := "b34634dbd5284d2ddce54b8f7d9104bb6514df79cee8ae06a5854ee24f56dd8a", func := "landfall/landfalllaw13.TideElsewhere", spec := "tideElsewhere", unfollowed := true, recurses := true, apart := false }
def TideElsewhereSaid : Prop := tideElsewhereRow.holds Try.pinned (OpenSpec.ofChange tideElsewhereSpec)

/-- ITS FALSE NEIGHBOUR: 'it returns false'. Refute it at one input. -/
def tideElsewhereWrong : ChangeSpec := { name := "tideElsewhere", fn := fun _ => fun
  | [d1, d2, d3, d4, d5, d6] => { results := [.lit (.bool false)], args := [d1, d2, d3, d4, d5, d6] }
  | _ => none }
def TideElsewhereWrongFalsely : Prop := tideElsewhereRow.holds Try.pinned (OpenSpec.ofChange tideElsewhereWrong)

/-- 'landfalllaw13.TideAfter': WHATEVER THE INPUT: true; the input reads as it did. -/
def tideAfterSpec : ChangeSpec := { name := "tideAfter", fn := fun _ => fun
  | [d1, d2, d3, d4, d5] => { results := [.lit (.bool true)], args := [d1, d2, d3, d4, d5] }
  | _ => none }
def tideAfterRow : OpenClaim := { program := "ytlppfikkgcfaoaa", sum := "b34634dbd5284d2ddce54b8f7d9104bb6514df79cee8ae06a5854ee24f56dd8a", func := "landfall/landfalllaw13.TideAfter", spec := "tideAfter", unfollowed := true, recurses := true, apart := false }
def TideAfterSaid : Prop := tideAfterRow.holds Try.pinned (OpenSpec.ofChange tideAfterSpec)

/-- ITS FALSE NEIGHBOUR: 'it returns false'. Refute it at one input. -/
def tideAfterWrong : ChangeSpec := { name := "tideAfter", fn := fun _ => fun
  | [d1, d2, d3, d4, d5] => { results := [.lit (.bool false)], args := [d1, d2, d3, d4, d5] }
  | _ => none }
def TideAfterWrongFalsely : Prop := tideAfterRow.holds Try.pinned (OpenSpec.ofChange tideAfterWrong)

/-- 'landfalllaw09.RayAround': WHATEVER THE INPUT: true; the input reads as it did. -/
def rayAroundSpec : ChangeSpec := { name := "rayAround", fn := fun _ => fun
  | [d1, d2, d3, d4] => { results := [.lit (.bool true)], args := [d1, d2, d3, d4] }
  | _ => none }
def rayAroundRow : OpenClaim := { program := "ytlppfikkgcfaoaa", sum := "b34634dbd5284d2ddce54b8f7d9104bb6514df79cee8ae06a5854ee24f56dd8a", func := "landfall/landfalllaw09.RayAround", spec := "rayAround", unfollowed := true, recurses := true, apart := false }
def RayAroundSaid : Prop := rayAroundRow.holds Try.pinned (OpenSpec.ofChange rayAroundSpec)

/-- ITS FALSE NEIGHBOUR: 'it returns false'. Refute it at one input. -/
def rayAroundWrong : ChangeSpec := { name := "rayAround", fn := fun _ => fun
  | [d1, d2, d3, d4] => { results := [.lit (.bool false)], args := [d1, d2, d3, d4] }
  | _ => none }
def RayAroundWrongFalsely : Prop := rayAroundRow.holds Try.pinned (OpenSpec.ofChange rayAroundWrong)

/-- 'landfalllaw09.RayTurns': WHATEVER THE INPUT: true; the input reads as it did. -/
def rayTurnsSpec : ChangeSpec := { name := "rayTurns", fn := fun _ => fun
  | [d1, d2, d3, d4] => { results := [.lit (.bool true)], args := [d1, d2, d3, d4] }
  | _ => none }
def rayTurnsRow : OpenClaim := { program := "ytlppfikkgcfaoaa", sum := "b34634dbd5284d2ddce54b8f7d9104bb6514df79cee8ae06a5854ee24f56dd8a", func := "landfall/landfalllaw09.RayTurns", spec := "rayTurns", unfollowed := true, recurses := true, apart := false }
def RayTurnsSaid : Prop := rayTurnsRow.holds Try.pinned (OpenSpec.ofChange rayTurnsSpec)

/-- ITS FALSE NEIGHBOUR: 'it returns false'. Refute it at one input. -/
def rayTurnsWrong : ChangeSpec := { name := "rayTurns", fn := fun _ => fun
  | [d1, d2, d3, d4] => { results := [.lit (.bool false)], args := [d1, d2, d3, d4] }
  | _ => none }
def RayTurnsWrongFalsely : Prop := rayTurnsRow.holds Try.pinned (OpenSpec.ofChange rayTurnsWrong)

/-- 'landfalllaw09.RayJoins': WHATEVER THE INPUT: true; the input reads as it did. -/
def rayJoinsSpec : ChangeSpec := { name := "rayJoins", fn := fun _ => fun
  | [d1, d2, d3, d4, d5] => { results := [.lit (.bool true)], args := [d1, d2, d3, d4, d5] }
  | _ => none }
def rayJoinsRow : OpenClaim := { program := "ytlppfikkgcfaoaa", sum := "b34634dbd5284d2ddce54b8f7d9104bb6514df79cee8ae06a5854ee24f56dd8a", func := "landfall/landfalllaw09.RayJoins", spec := "rayJoins", unfollowed := true, recurses := true, apart := false }
def RayJoinsSaid : Prop := rayJoinsRow.holds Try.pinned (OpenSpec.ofChange rayJoinsSpec)

/-- ITS FALSE NEIGHBOUR: 'it returns false'. Refute it at one input. -/
def rayJoinsWrong : ChangeSpec := { name := "rayJoins", fn := fun _ => fun
  | [d1, d2, d3, d4, d5] => { results := [.lit (.bool false)], args := [d1, d2, d3, d4, d5] }
  | _ => none }
def RayJoinsWrongFalsely : Prop := rayJoinsRow.holds Try.pinned (OpenSpec.ofChange rayJoinsWrong)

/-- 'landfalllaw13.TideDrift': WHATEVER THE INPUT: true; the input reads as it did. -/
def tideDriftSpec : ChangeSpec := { name := "tideDrift", fn := fun _ => fun
  | [d1, d2, d3, d4, d5, d6, d7] => { results := [.lit (.bool true)], args := [d1, d2, d3, d4, d5, d6, d7] }
  | _ => none }
def tideDriftRow : OpenClaim := { program := "ytlppfikkgcfaoaa", sum := "b34634dbd5284d2ddce54b8f7d9104bb6514df79cee8ae06a5854ee24f56dd8a", func := "landfall/landfalllaw13.TideDrift", spec := "tideDrift", unfollowed := true, recurses := true, apart := false }
def TideDriftSaid : Prop := tideDriftRow.holds Try.pinned (OpenSpec.ofChange tideDriftSpec)

/-- ITS FALSE NEIGHBOUR: 'it returns false'. Refute it at one input. -/
def tideDriftWrong : ChangeSpec := { name := "tideDrift", fn := fun _ => fun
  | [d1, d2, d3, d4, d5, d6, d7] => { results := [.lit (.bool false)], args := [d1, d2, d3, d4, d5, d6, d7] }
  | _ => none }
def TideDriftWrongFalsely : Prop := tideDriftRow.holds Try.pinned (OpenSpec.ofChange tideDriftWrong)

/-- 'landfalllaw09.RaySectors': WHATEVER THE INPUT: true; the input reads as it did. -/
def raySectorsSpec : ChangeSpec := { name := "raySectors", fn := fun _ => fun
  | [d1, d2, d3, d4, d5, d6] => { results := [.lit (.bool true)], args := [d1, d2, d3, d4, d5, d6] }
  | _ => none }
def raySectorsRow : OpenClaim := { program := "ytlppfikkgcfaoaa", sum := "b34634dbd5284d2ddce54b8f7d9104bb6514df79cee8ae06a5854ee24f56dd8a", func := "landfall/landfalllaw09.RaySectors", spec := "raySectors", unfollowed := true, recurses := true, apart := false }
def RaySectorsSaid : Prop := raySectorsRow.holds Try.pinned (OpenSpec.ofChange raySectorsSpec)

/-- ITS FALSE NEIGHBOUR: 'it returns false'. Refute it at one input. -/
def raySectorsWrong : ChangeSpec := { name := "raySectors", fn := fun _ => fun
  | [d1, d2, d3, d4, d5, d6] => { results := [.lit (.bool false)], args := [d1, d2, d3, d4, d5, d6] }
  | _ => none }
def RaySectorsWrongFalsely : Prop := raySectorsRow.holds Try.pinned (OpenSpec.ofChange raySectorsWrong)

/-- 'landfalllaw09.RayEnds': WHATEVER THE INPUT: true; the input reads as it did. -/
def rayEndsSpec : ChangeSpec := { name := "rayEnds", fn := fun _ => fun
  | [d1, d2, d3, d4] => { results := [.lit (.bool true)], args := [d1, d2, d3, d4] }
  | _ => none }
def rayEndsRow : OpenClaim := { program := "ytlppfikkgcfaoaa", sum := "b34634dbd5284d2ddce54b8f7d9104bb6514df79cee8ae06a5854ee24f56dd8a", func := "landfall/landfalllaw09.RayEnds", spec := "rayEnds", unfollowed := true, recurses := true, apart := false }
def RayEndsSaid : Prop := rayEndsRow.holds Try.pinned (OpenSpec.ofChange rayEndsSpec)

/-- ITS FALSE NEIGHBOUR: 'it returns false'. Refute it at one input. -/
def rayEndsWrong : ChangeSpec := { name := "rayEnds", fn := fun _ => fun
  | [d1, d2, d3, d4] => { results := [.lit (.bool false)], args := [d1, d2, d3, d4] }
  | _ => none }
def RayEndsWrongFalsely : Prop := rayEndsRow.holds Try.pinned (OpenSpec.ofChange rayEndsWrong)

/- THE SECOND FORM. 'bulk': how many values and letters a reading holds, each counted each time it is reached (what is shared counts as often as it is met; a slice's spare places count too). A statement '..UptoSaid' is the law's where the arguments, and the package variables that the reading takes, are together of bulk at most 1048576: NARROWER than '..Said'. Prove '..Said' where nothing that the law and all that it calls make is longer than what came in: it says more and counts as full. Else prove '..UptoSaid'. A law counts once. -/
mutual
def uptoBulk {H : Type} : DataW H → Nat
  | .lit (.string bytes) => bytes.length + 1
  | .lit _ => 1
  | .nil => 1
  | .ptr d => uptoBulk d + 1
  | .slice elems spare => uptoBulkAll elems + uptoBulkAll spare + 1
  | .agg parts => uptoBulkAll parts + 1
  | .iface _ d => uptoBulk d + 1
  | .map entries => uptoBulkEntries entries + 1
  | .held _ => 1
def uptoBulkAll {H : Type} : List (DataW H) → Nat
  | [] => 0
  | d :: r => uptoBulk d + uptoBulkAll r
def uptoBulkEntries {H : Type} : List (Lit × DataW H) → Nat
  | [] => 0
  | x :: r => uptoBulkEntry x + uptoBulkEntries r
def uptoBulkEntry {H : Type} : Lit × DataW H → Nat
  | (.string bytes, d) => bytes.length + uptoBulk d + 1
  | (_, d) => uptoBulk d + 1
 end
def uptoSmall : (H : Type) → List (DataW H) → Bool := fun _ ds => decide (uptoBulkAll ds ≤ 1048576)
def OpenSpec.upto (s : _root_.Go.ChangeSpec) : _root_.Go.OpenSpec := { _root_.Go.OpenSpec.ofChange s with cond := some uptoSmall }

/-- 'landfalllaw13.TideWithin', WHERE WHAT IT READS IS OF BULK AT MOST 1048576: true; the input reads as it did. -/
def tideWithinUptoRow : OpenClaim := { program := "ytlppfikkgcfaoaa", sum := "b34634dbd5284d2ddce54b8f7d9104bb6514df79cee8ae06a5854ee24f56dd8a", func := "landfall/landfalllaw13.TideWithin", spec := "tideWithin", unfollowed := true, recurses := true, apart := false, narrowed := true }
def TideWithinUptoSaid : Prop := tideWithinUptoRow.holds Try.pinned (OpenSpec.upto tideWithinSpec)

/-- 'landfalllaw13.TideLeast', WHERE WHAT IT READS IS OF BULK AT MOST 1048576: true; the input reads as it did. -/
def tideLeastUptoRow : OpenClaim := { program := "ytlppfikkgcfaoaa", sum := "b34634dbd5284d2ddce54b8f7d9104bb6514df79cee8ae06a5854ee24f56dd8a", func := "landfall/landfalllaw13.TideLeast", spec := "tideLeast", unfollowed := true, recurses := true, apart := false, narrowed := true }
def TideLeastUptoSaid : Prop := tideLeastUptoRow.holds Try.pinned (OpenSpec.upto tideLeastSpec)

/-- 'landfalllaw13.TideGreater', WHERE WHAT IT READS IS OF BULK AT MOST 1048576: true; the input reads as it did. -/
def tideGreaterUptoRow : OpenClaim := { program := "ytlppfikkgcfaoaa", sum := "b34634dbd5284d2ddce54b8f7d9104bb6514df79cee8ae06a5854ee24f56dd8a", func := "landfall/landfalllaw13.TideGreater", spec := "tideGreater", unfollowed := true, recurses := true, apart := false, narrowed := true }
def TideGreaterUptoSaid : Prop := tideGreaterUptoRow.holds Try.pinned (OpenSpec.upto tideGreaterSpec)

/-- 'landfalllaw13.TideElsewhere', WHERE WHAT IT READS IS OF BULK AT MOST 1048576: true; the input reads as it did. -/
def tideElsewhereUptoRow : OpenClaim := { program := "ytlppfikkgcfaoaa", sum := "b34634dbd5284d2ddce54b8f7d9104bb6514df79cee8ae06a5854ee24f56dd8a", func := "landfall/landfalllaw13.TideElsewhere", spec := "tideElsewhere", unfollowed := true, recurses := true, apart := false, narrowed := true }
def TideElsewhereUptoSaid : Prop := tideElsewhereUptoRow.holds Try.pinned (OpenSpec.upto tideElsewhereSpec)

/-- 'landfalllaw13.TideAfter', WHERE WHAT IT READS IS OF BULK AT MOST 1048576: true; the input reads as it did. -/
def tideAfterUptoRow : OpenClaim := { program := "ytlppfikkgcfaoaa", sum := "b34634dbd5284d2ddce54b8f7d9104bb6514df79cee8ae06a5854ee24f56dd8a", func := "landfall/landfalllaw13.TideAfter", spec := "tideAfter", unfollowed := true, recurses := true, apart := false, narrowed := true }
def TideAfterUptoSaid : Prop := tideAfterUptoRow.holds Try.pinned (OpenSpec.upto tideAfterSpec)

/-- 'landfalllaw09.RayAround', WHERE WHAT IT READS IS OF BULK AT MOST 1048576: true; the input reads as it did. -/
def rayAroundUptoRow : OpenClaim := { program := "ytlppfikkgcfaoaa", sum := "b34634dbd5284d2ddce54b8f7d9104bb6514df79cee8ae06a5854ee24f56dd8a", func := "landfall/landfalllaw09.RayAround", spec := "rayAround", unfollowed := true, recurses := true, apart := false, narrowed := true }
def RayAroundUptoSaid : Prop := rayAroundUptoRow.holds Try.pinned (OpenSpec.upto rayAroundSpec)

/-- 'landfalllaw09.RayTurns', WHERE WHAT IT READS IS OF BULK AT MOST 1048576: true; the input reads as it did. -/
def rayTurnsUptoRow : OpenClaim := { program := "ytlppfikkgcfaoaa", sum := "b34634dbd5284d2ddce54b8f7d9104bb6514df79cee8ae06a5854ee24f56dd8a", func := "landfall/landfalllaw09.RayTurns", spec := "rayTurns", unfollowed := true, recurses := true, apart := false, narrowed := true }
def RayTurnsUptoSaid : Prop := rayTurnsUptoRow.holds Try.pinned (OpenSpec.upto rayTurnsSpec)

/-- 'landfalllaw09.RayJoins', WHERE WHAT IT READS IS OF BULK AT MOST 1048576: true; the input reads as it did. -/
def rayJoinsUptoRow : OpenClaim := { program := "ytlppfikkgcfaoaa", sum := "b34634dbd5284d2ddce54b8f7d9104bb6514df79cee8ae06a5854ee24f56dd8a", func := "landfall/landfalllaw09.RayJoins", spec := "rayJoins", unfollowed := true, recurses := true, apart := false, narrowed := true }
def RayJoinsUptoSaid : Prop := rayJoinsUptoRow.holds Try.pinned (OpenSpec.upto rayJoinsSpec)

/-- 'landfalllaw13.TideDrift', WHERE WHAT IT READS IS OF BULK AT MOST 1048576: true; the input reads as it did. -/
def tideDriftUptoRow : OpenClaim := { program := "ytlppfikkgcfaoaa", sum := "b34634dbd5284d2ddce54b8f7d9104bb6514df79cee8ae06a5854ee24f56dd8a", func := "landfall/landfalllaw13.TideDrift", spec := "tideDrift", unfollowed := true, recurses := true, apart := false, narrowed := true }
def TideDriftUptoSaid : Prop := tideDriftUptoRow.holds Try.pinned (OpenSpec.upto tideDriftSpec)

/-- 'landfalllaw09.RaySectors', WHERE WHAT IT READS IS OF BULK AT MOST 1048576: true; the input reads as it did. -/
def raySectorsUptoRow : OpenClaim := { program := "ytlppfikkgcfaoaa", sum := "b34634dbd5284d2ddce54b8f7d9104bb6514df79cee8ae06a5854ee24f56dd8a", func := "landfall/landfalllaw09.RaySectors", spec := "raySectors", unfollowed := true, recurses := true, apart := false, narrowed := true }
def RaySectorsUptoSaid : Prop := raySectorsUptoRow.holds Try.pinned (OpenSpec.upto raySectorsSpec)

/-- 'landfalllaw09.RayEnds', WHERE WHAT IT READS IS OF BULK AT MOST 1048576: true; the input reads as it did. -/
def rayEndsUptoRow : OpenClaim := { program := "ytlppfikkgcfaoaa", sum := "b34634dbd5284d2ddce54b8f7d9104bb6514df79cee8ae06a5854ee24f56dd8a", func := "landfall/landfalllaw09.RayEnds", spec := "rayEnds", unfollowed := true, recurses := true, apart := false, narrowed := true }
def RayEndsUptoSaid : Prop := rayEndsUptoRow.holds Try.pinned (OpenSpec.upto rayEndsSpec)

end Rows
end Go.Proofs.Ytlppfikkgcfaoaa
