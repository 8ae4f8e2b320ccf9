/-
  No cell of these rows narrows 'for every input' (looked for: loops, veiled, ifaces, maps, wideKeys, modest, calm, conditions, laid).
  DERIVED. THE GIVEN ROWS OF THIS SEAT. 6 by the template 'for every input the law returns true; each argument reads behind the call as it read before'; 0 by the template 'total and deterministic' (their statements: YtlihojecopfgfaaTotals.lean).
  GIVEN WITH THE SEED: the statements are not yours to turn. If you find one false, say at which input.
  Laid BY PROGRAM, IN A SANDBOX (cutbox-rows.mjs): the forced cells as the released guide's own fill.sh prints them over the translation 0ba91c5fedb8ee75… (all of the seat's roots in one cut). By AI agents, Wed Nov 11 2026. No macro, syntax, notation, axiom, sorry.
-/
import Derived.Test.YtlihojecopfgfaaChecked
import GoSem.Claim
import GoSem.ClaimJoined
import GoSem.ClaimMapViews
import Derived.JoinedTies
import Derived.KernelRfl
namespace Go.Proofs.Ytlihojecopfgfaa
/- THE CELL 'sum', in the pinned program and in every row, IS THE sha256 OF THE DUMP (.gsa) THAT YtlihojecopfgfaaProg.lean LOADS. Nothing in Lean hashes anything: it is a label: what it is worth is what the hold of that sum in a sandbox is worth. -/
noncomputable def Try.pinned : Pinned := { name := "ytlihojecopfgfaa", sum := "0ba91c5fedb8ee750dd468529b45b2be6a1c32b60adeab61ca661847e86b9731", checked := Try.checked }
namespace Rows
def none {H : Type} : Left H := { results := [], args := [] }

/-- 'landfalllaw04.CutSides': WHATEVER THE INPUT: true; the input reads as it did. -/
def cutSidesSpec : ChangeSpec := { name := "cutSides", fn := fun _ => fun
  | [d1, d2, d3] => { results := [.lit (.bool true)], args := [d1, d2, d3] }
  | _ => none }
def cutSidesRow : OpenClaim := { program := "ytlihojecopfgfaa", sum := "0ba91c5fedb8ee750dd468529b45b2be6a1c32b60adeab61ca661847e86b9731", func := "landfall/landfalllaw04.CutSides", spec := "cutSides", unfollowed := true, recurses := true, apart := false }
def CutSidesSaid : Prop := cutSidesRow.holds Try.pinned (OpenSpec.ofChange cutSidesSpec)

/-- ITS FALSE NEIGHBOUR: 'it returns false'. Refute it at one input. -/
def cutSidesWrong : ChangeSpec := { name := "cutSides", fn := fun _ => fun
  | [d1, d2, d3] => { results := [.lit (.bool false)], args := [d1, d2, d3] }
  | _ => none }
def CutSidesWrongFalsely : Prop := cutSidesRow.holds Try.pinned (OpenSpec.ofChange cutSidesWrong)

/-- 'landfalllaw04.CutMeets': WHATEVER THE INPUT: true; the input reads as it did. -/
def cutMeetsSpec : ChangeSpec := { name := "cutMeets", fn := fun _ => fun
  | [d1, d2, d3] => { results := [.lit (.bool true)], args := [d1, d2, d3] }
  | _ => none }
def cutMeetsRow : OpenClaim := { program := "ytlihojecopfgfaa", sum := "0ba91c5fedb8ee750dd468529b45b2be6a1c32b60adeab61ca661847e86b9731", func := "landfall/landfalllaw04.CutMeets", spec := "cutMeets", unfollowed := true, recurses := true, apart := false }
def CutMeetsSaid : Prop := cutMeetsRow.holds Try.pinned (OpenSpec.ofChange cutMeetsSpec)

/-- ITS FALSE NEIGHBOUR: 'it returns false'. Refute it at one input. -/
def cutMeetsWrong : ChangeSpec := { name := "cutMeets", fn := fun _ => fun
  | [d1, d2, d3] => { results := [.lit (.bool false)], args := [d1, d2, d3] }
  | _ => none }
def CutMeetsWrongFalsely : Prop := cutMeetsRow.holds Try.pinned (OpenSpec.ofChange cutMeetsWrong)

/-- 'landfalllaw04.CutCommon': WHATEVER THE INPUT: true; the input reads as it did. -/
def cutCommonSpec : ChangeSpec := { name := "cutCommon", fn := fun _ => fun
  | [d1, d2] => { results := [.lit (.bool true)], args := [d1, d2] }
  | _ => none }
def cutCommonRow : OpenClaim := { program := "ytlihojecopfgfaa", sum := "0ba91c5fedb8ee750dd468529b45b2be6a1c32b60adeab61ca661847e86b9731", func := "landfall/landfalllaw04.CutCommon", spec := "cutCommon", unfollowed := true, recurses := true, apart := false }
def CutCommonSaid : Prop := cutCommonRow.holds Try.pinned (OpenSpec.ofChange cutCommonSpec)

/-- ITS FALSE NEIGHBOUR: 'it returns false'. Refute it at one input. -/
def cutCommonWrong : ChangeSpec := { name := "cutCommon", fn := fun _ => fun
  | [d1, d2] => { results := [.lit (.bool false)], args := [d1, d2] }
  | _ => none }
def CutCommonWrongFalsely : Prop := cutCommonRow.holds Try.pinned (OpenSpec.ofChange cutCommonWrong)

/-- 'landfalllaw04.CutApart': WHATEVER THE INPUT: true; the input reads as it did. -/
def cutApartSpec : ChangeSpec := { name := "cutApart", fn := fun _ => fun
  | [d1, d2] => { results := [.lit (.bool true)], args := [d1, d2] }
  | _ => none }
def cutApartRow : OpenClaim := { program := "ytlihojecopfgfaa", sum := "0ba91c5fedb8ee750dd468529b45b2be6a1c32b60adeab61ca661847e86b9731", func := "landfall/landfalllaw04.CutApart", spec := "cutApart", unfollowed := true, recurses := true, apart := false }
def CutApartSaid : Prop := cutApartRow.holds Try.pinned (OpenSpec.ofChange cutApartSpec)

/-- ITS FALSE NEIGHBOUR: 'it returns false'. Refute it at one input. -/
def cutApartWrong : ChangeSpec := { name := "cutApart", fn := fun _ => fun
  | [d1, d2] => { results := [.lit (.bool false)], args := [d1, d2] }
  | _ => none }
def CutApartWrongFalsely : Prop := cutApartRow.holds Try.pinned (OpenSpec.ofChange cutApartWrong)

/-- 'landfalllaw04.CutKeeps': WHATEVER THE INPUT: true; the input reads as it did. -/
def cutKeepsSpec : ChangeSpec := { name := "cutKeeps", fn := fun _ => fun
  | [d1, d2, d3] => { results := [.lit (.bool true)], args := [d1, d2, d3] }
  | _ => none }
def cutKeepsRow : OpenClaim := { program := "ytlihojecopfgfaa", sum := "0ba91c5fedb8ee750dd468529b45b2be6a1c32b60adeab61ca661847e86b9731", func := "landfall/landfalllaw04.CutKeeps", spec := "cutKeeps", unfollowed := true, recurses := true, apart := false }
def CutKeepsSaid : Prop := cutKeepsRow.holds Try.pinned (OpenSpec.ofChange cutKeepsSpec)

/-- ITS FALSE NEIGHBOUR: 'it returns false'. Refute it at one input. -/
def cutKeepsWrong : ChangeSpec := { name := "cutKeeps", fn := fun _ => fun
  | [d1, d2, d3] => { results := [.lit (.bool false)], args := [d1, d2, d3] }
  | _ => none }
def CutKeepsWrongFalsely : Prop := cutKeepsRow.holds Try.pinned (OpenSpec.ofChange cutKeepsWrong)

/-- 'landfalllaw04.CutWhole': WHATEVER THE INPUT: true; the input reads as it did. -/
def cutWholeSpec : ChangeSpec := { name := "cutWhole", fn := fun _ => fun
  | [d1, d2] => { results := [.lit (.bool true)], args := [d1, d2] }
  | _ => none }
def cutWholeRow : OpenClaim := { program := "ytlihojecopfgfaa", sum := "0ba91c5fedb8ee750dd468529b45b2be6a1c32b60adeab61ca661847e86b9731", func := "landfall/landfalllaw04.CutWhole", spec := "cutWhole", unfollowed := true, recurses := true, apart := false }
def CutWholeSaid : Prop := cutWholeRow.holds Try.pinned (OpenSpec.ofChange cutWholeSpec)

/-- ITS FALSE NEIGHBOUR: 'it returns false'. Refute it at one input. -/
def cutWholeWrong : ChangeSpec := { name := "cutWhole", fn := fun _ => fun
  | [d1, d2] => { results := [.lit (.bool false)], args := [d1, d2] }
  | _ => none }
def CutWholeWrongFalsely : Prop := cutWholeRow.holds Try.pinned (OpenSpec.ofChange cutWholeWrong)

/- THE SECOND FORM. 'bulk': how many values and letters a reading holds, each counted each time it is reached (what is shared counts as often as it is met; a slice's spare places count too). A statement '..UptoSaid' is the law's where the arguments, and the package variables that the reading takes, are together of bulk at most 1048576: NARROWER than '..Said'. Prove '..Said' where nothing that the law and all that it calls make is longer than what came in: it says more and counts as full. Else prove '..UptoSaid'. A law counts once. -/
mutual
def uptoBulk {H : Type} : DataW H → Nat
  | .lit (.string bytes) => bytes.length + 1
  | .lit _ => 1
  | .nil => 1
  | .ptr d => uptoBulk d + 1
  | .slice elems spare => uptoBulkAll elems + uptoBulkAll spare + 1
  | .agg parts => uptoBulkAll parts + 1
  | .iface _ d => uptoBulk d + 1
  | .map entries => uptoBulkEntries entries + 1
  | .held _ => 1
def uptoBulkAll {H : Type} : List (DataW H) → Nat
  | [] => 0
  | d :: r => uptoBulk d + uptoBulkAll r
def uptoBulkEntries {H : Type} : List (Lit × DataW H) → Nat
  | [] => 0
  | x :: r => uptoBulkEntry x + uptoBulkEntries r
def uptoBulkEntry {H : Type} : Lit × DataW H → Nat
  | (.string bytes, d) => bytes.length + uptoBulk d + 1
  | (_, d) => uptoBulk d + 1
 end
def uptoSmall : (H : Type) → List (DataW H) → Bool := fun _ ds => decide (uptoBulkAll ds ≤ 1048576)
def OpenSpec.upto (s : _root_.Go.ChangeSpec) : _root_.Go.OpenSpec := { _root_.Go.OpenSpec.ofChange s with cond := some uptoSmall }

/-- 'landfalllaw04.CutSides', WHERE WHAT IT READS IS OF BULK AT MOST 1048576: true; the input reads as it did. -/
def cutSidesUptoRow : OpenClaim := { program := "ytlihojecopfgfaa", sum := "0ba91c5fedb8ee750dd468529b45b2be6a1c32b60adeab61ca661847e86b9731", func := "landfall/landfalllaw04.CutSides", spec := "cutSides", unfollowed := true, recurses := true, apart := false, narrowed := true }
def CutSidesUptoSaid : Prop := cutSidesUptoRow.holds Try.pinned (OpenSpec.upto cutSidesSpec)

/-- 'landfalllaw04.CutMeets', WHERE WHAT IT READS IS OF BULK AT MOST 1048576: true; the input reads as it did. -/
def cutMeetsUptoRow : OpenClaim := { program := "ytlihojecopfgfaa", sum := "0ba91c5fedb8ee750dd468529b45b2be6a1c32b60adeab61ca661847e86b9731", func := "landfall/landfalllaw04.CutMeets", spec := "cutMeets", unfollowed := true, recurses := true, apart := false, narrowed := true }
def CutMeetsUptoSaid : Prop := cutMeetsUptoRow.holds Try.pinned (OpenSpec.upto cutMeetsSpec)

/-- 'landfalllaw04.CutCommon', WHERE WHAT IT READS IS OF BULK AT MOST 1048576: true; the input reads as it did. -/
def cutCommonUptoRow : OpenClaim := { program := "ytlihojecopfgfaa", sum := "0ba91c5fedb8ee750dd468529b45b2be6a1c32b60adeab61ca661847e86b9731", func := "landfall/landfalllaw04.CutCommon", spec := "cutCommon", unfollowed := true, recurses := true, apart := false, narrowed := true }
def CutCommonUptoSaid : Prop := cutCommonUptoRow.holds Try.pinned (OpenSpec.upto cutCommonSpec)

/-- 'landfalllaw04.CutApart', WHERE WHAT IT READS IS OF BULK AT MOST 1048576: true; the input reads as it did. -/
def cutApartUptoRow : OpenClaim := { program := "ytlihojecopfgfaa", sum := "0ba91c5fedb8ee750dd468529b45b2be6a1c32b60adeab61ca661847e86b9731", func := "landfall/landfalllaw04.CutApart", spec := "cutApart", unfollowed := true, recurses := true, apart := false, narrowed := true }
def CutApartUptoSaid : Prop := cutApartUptoRow.holds Try.pinned (OpenSpec.upto cutApartSpec)

/-- 'landfalllaw04.CutKeeps', WHERE WHAT IT READS IS OF BULK AT MOST 1048576: true; the input reads as it did. -/
def cutKeepsUptoRow : OpenClaim := { program := "ytlihojecopfgfaa", sum := "0ba91c5fedb8ee750dd468529b45b2be6a1c32b60adeab61ca661847e86b9731", func := "landfall/landfalllaw04.CutKeeps", spec := "cutKeeps", unfollowed := true, recurses := true, apart := false, narrowed := true }
def CutKeepsUptoSaid : Prop := cutKeepsUptoRow.holds Try.pinned (OpenSpec.upto cutKeepsSpec)

/-- 'landfalllaw04.CutWhole', WHERE WHAT IT READS IS OF BULK AT MOST 1048576: true; the input reads as it did. -/
def cutWholeUptoRow : OpenClaim := { program := "ytlihojecopfgfaa", sum := "0ba91c5fedb8ee750dd468529b45b2be6a1c32b60adeab61ca661847e86b9731", func := "landfall/landfalllaw04.CutWhole", spec := "cutWhole", unfollowed := true, recurses := true, apart := false, narrowed := true }
def CutWholeUptoSaid : Prop := cutWholeUptoRow.holds Try.pinned (OpenSpec.upto cutWholeSpec)

end Rows
end Go.Proofs.Ytlihojecopfgfaa
