/-
  NARROWER THAN 'FOR EVERY INPUT', by the rows' own cells (each row's printed sentence says how): AbsentMatchesReference: laid · AbsentInner: laid · AbsentKeeps: laid · AbsentGoes: laid.
  DERIVED. THE GIVEN ROWS OF THIS SEAT. 4 by the template 'for every input the law returns true; each argument reads behind the call as it read before'; 0 by the template 'total and deterministic' (their statements: YtdfhnemhkpplbaaGreatDoorTotals.lean).
  GIVEN WITH THE SEED: the statements are not yours to turn. If you find one false, say at which input.
  Laid BY PROGRAM, IN A SANDBOX (cutbox-rows.mjs): the forced cells as the released guide's own fill.sh prints them over the translation 5db5f49a641887ac… (all of the seat's roots in one cut). By AI agents, Wed Nov 11 2026. No macro, syntax, notation, axiom, sorry.
-/
import Derived.Test.YtdfhnemhkpplbaaGreatDoorChecked
import GoSem.Claim
import GoSem.ClaimJoined
import GoSem.ClaimMapViews
import Derived.JoinedTies
import Derived.KernelRfl
namespace Go.Proofs.YtdfhnemhkpplbaaGreatDoor
/- THE CELL 'sum', in the pinned program and in every row, IS THE sha256 OF THE DUMP (.gsa) THAT YtdfhnemhkpplbaaGreatDoorProg.lean LOADS. Nothing in Lean hashes anything: it is a label: what it is worth is what the hold of that sum in a sandbox is worth. -/
noncomputable def Tryz.pinned : Pinned := { name := "ytdfhnemhkpplbaagreatdoor", sum := "5db5f49a641887ac35317699dc188a0156954a8fee6116cea736dd850ffa877d", checked := Tryz.checked }
namespace Rows
def none {H : Type} : Left H := { results := [], args := [] }

/- WHAT THE LISTED PACKAGE-LEVEL VARIABLES READ AS WHEN THE CALL BEGINS. Each datum BY PROGRAM (the guide's laid-datum.mjs) off the statement by which the dump's own 'gosem.cut.vars' lays the variable. In a bare row this is a premise. The card (YtdfhnemhkpplbaaGreatDoorCards.lean) ties it to the program's text. -/
def laid_landfall_absent_signs {H : Type} : DataW H := .agg [.agg [.lit (.int .i64 (-1)), .lit (.int .i64 0)], .agg [.lit (.int .i64 (-1)), .lit (.int .i64 (-1))], .agg [.lit (.int .i64 0), .lit (.int .i64 (-1))], .agg [.lit (.int .i64 1), .lit (.int .i64 (-1))], .agg [.lit (.int .i64 1), .lit (.int .i64 0)], .agg [.lit (.int .i64 1), .lit (.int .i64 1)], .agg [.lit (.int .i64 0), .lit (.int .i64 1)], .agg [.lit (.int .i64 (-1)), .lit (.int .i64 1)]]

/-- 'landfalllaw19.AbsentMatchesReference': WHATEVER THE INPUT: true; the input reads as it did. -/
def absentMatchesReferenceSpec : ChangeSpec := { name := "absentMatchesReference", fn := fun _ => fun
  | [d1, d2, d3] => { results := [.lit (.bool true)], args := [d1, d2, d3] }
  | _ => none }
def absentMatchesReferenceRow : OpenClaim := { program := "ytdfhnemhkpplbaagreatdoor", sum := "5db5f49a641887ac35317699dc188a0156954a8fee6116cea736dd850ffa877d", func := "landfall/landfalllaw19.AbsentMatchesReference", spec := "absentMatchesReference", unfollowed := true, recurses := true, named := ["landfall/absent.signs"], apart := false, laid := [("landfall/absent.signs", laid_landfall_absent_signs)] }
def AbsentMatchesReferenceSaid : Prop := absentMatchesReferenceRow.holds Tryz.pinned (OpenSpec.ofChange absentMatchesReferenceSpec)

/-- ITS FALSE NEIGHBOUR: 'it returns false'. Refute it at one input. -/
def absentMatchesReferenceWrong : ChangeSpec := { name := "absentMatchesReference", fn := fun _ => fun
  | [d1, d2, d3] => { results := [.lit (.bool false)], args := [d1, d2, d3] }
  | _ => none }
def AbsentMatchesReferenceWrongFalsely : Prop := absentMatchesReferenceRow.holds Tryz.pinned (OpenSpec.ofChange absentMatchesReferenceWrong)

/-- 'landfalllaw19.AbsentInner': WHATEVER THE INPUT: true; the input reads as it did. -/
def absentInnerSpec : ChangeSpec := { name := "absentInner", fn := fun _ => fun
  | [d1, d2, d3] => { results := [.lit (.bool true)], args := [d1, d2, d3] }
  | _ => none }
def absentInnerRow : OpenClaim := { program := "ytdfhnemhkpplbaagreatdoor", sum := "5db5f49a641887ac35317699dc188a0156954a8fee6116cea736dd850ffa877d", func := "landfall/landfalllaw19.AbsentInner", spec := "absentInner", unfollowed := true, recurses := true, named := ["landfall/absent.signs"], apart := false, laid := [("landfall/absent.signs", laid_landfall_absent_signs)] }
def AbsentInnerSaid : Prop := absentInnerRow.holds Tryz.pinned (OpenSpec.ofChange absentInnerSpec)

/-- ITS FALSE NEIGHBOUR: 'it returns false'. Refute it at one input. -/
def absentInnerWrong : ChangeSpec := { name := "absentInner", fn := fun _ => fun
  | [d1, d2, d3] => { results := [.lit (.bool false)], args := [d1, d2, d3] }
  | _ => none }
def AbsentInnerWrongFalsely : Prop := absentInnerRow.holds Tryz.pinned (OpenSpec.ofChange absentInnerWrong)

/-- 'landfalllaw19.AbsentKeeps': WHATEVER THE INPUT: true; the input reads as it did. -/
def absentKeepsSpec : ChangeSpec := { name := "absentKeeps", fn := fun _ => fun
  | [d1, d2, d3, d4] => { results := [.lit (.bool true)], args := [d1, d2, d3, d4] }
  | _ => none }
def absentKeepsRow : OpenClaim := { program := "ytdfhnemhkpplbaagreatdoor", sum := "5db5f49a641887ac35317699dc188a0156954a8fee6116cea736dd850ffa877d", func := "landfall/landfalllaw19.AbsentKeeps", spec := "absentKeeps", unfollowed := true, recurses := true, named := ["landfall/absent.signs"], apart := false, laid := [("landfall/absent.signs", laid_landfall_absent_signs)] }
def AbsentKeepsSaid : Prop := absentKeepsRow.holds Tryz.pinned (OpenSpec.ofChange absentKeepsSpec)

/-- ITS FALSE NEIGHBOUR: 'it returns false'. Refute it at one input. -/
def absentKeepsWrong : ChangeSpec := { name := "absentKeeps", fn := fun _ => fun
  | [d1, d2, d3, d4] => { results := [.lit (.bool false)], args := [d1, d2, d3, d4] }
  | _ => none }
def AbsentKeepsWrongFalsely : Prop := absentKeepsRow.holds Tryz.pinned (OpenSpec.ofChange absentKeepsWrong)

/-- 'landfalllaw19.AbsentGoes': WHATEVER THE INPUT: true; the input reads as it did. -/
def absentGoesSpec : ChangeSpec := { name := "absentGoes", fn := fun _ => fun
  | [d1, d2, d3, d4] => { results := [.lit (.bool true)], args := [d1, d2, d3, d4] }
  | _ => none }
def absentGoesRow : OpenClaim := { program := "ytdfhnemhkpplbaagreatdoor", sum := "5db5f49a641887ac35317699dc188a0156954a8fee6116cea736dd850ffa877d", func := "landfall/landfalllaw19.AbsentGoes", spec := "absentGoes", unfollowed := true, recurses := true, named := ["landfall/absent.signs"], apart := false, laid := [("landfall/absent.signs", laid_landfall_absent_signs)] }
def AbsentGoesSaid : Prop := absentGoesRow.holds Tryz.pinned (OpenSpec.ofChange absentGoesSpec)

/-- ITS FALSE NEIGHBOUR: 'it returns false'. Refute it at one input. -/
def absentGoesWrong : ChangeSpec := { name := "absentGoes", fn := fun _ => fun
  | [d1, d2, d3, d4] => { results := [.lit (.bool false)], args := [d1, d2, d3, d4] }
  | _ => none }
def AbsentGoesWrongFalsely : Prop := absentGoesRow.holds Tryz.pinned (OpenSpec.ofChange absentGoesWrong)

/- THE SECOND FORM. 'bulk': how many values and letters a reading holds, each counted each time it is reached (what is shared counts as often as it is met; a slice's spare places count too). A statement '..UptoSaid' is the law's where the arguments, and the package variables that the reading takes, are together of bulk at most 1048576: NARROWER than '..Said'. Prove '..Said' where nothing that the law and all that it calls make is longer than what came in: it says more and counts as full. Else prove '..UptoSaid'. A law counts once. -/
mutual
def uptoBulk {H : Type} : DataW H → Nat
  | .lit (.string bytes) => bytes.length + 1
  | .lit _ => 1
  | .nil => 1
  | .ptr d => uptoBulk d + 1
  | .slice elems spare => uptoBulkAll elems + uptoBulkAll spare + 1
  | .agg parts => uptoBulkAll parts + 1
  | .iface _ d => uptoBulk d + 1
  | .map entries => uptoBulkEntries entries + 1
  | .held _ => 1
def uptoBulkAll {H : Type} : List (DataW H) → Nat
  | [] => 0
  | d :: r => uptoBulk d + uptoBulkAll r
def uptoBulkEntries {H : Type} : List (Lit × DataW H) → Nat
  | [] => 0
  | x :: r => uptoBulkEntry x + uptoBulkEntries r
def uptoBulkEntry {H : Type} : Lit × DataW H → Nat
  | (.string bytes, d) => bytes.length + uptoBulk d + 1
  | (_, d) => uptoBulk d + 1
 end
def uptoSmall : (H : Type) → List (DataW H) → Bool := fun _ ds => decide (uptoBulkAll ds ≤ 1048576)
def OpenSpec.upto (s : _root_.Go.ChangeSpec) : _root_.Go.OpenSpec := { _root_.Go.OpenSpec.ofChange s with cond := some uptoSmall }

/-- 'landfalllaw19.AbsentMatchesReference', WHERE WHAT IT READS IS OF BULK AT MOST 1048576: true; the input reads as it did. -/
def absentMatchesReferenceUptoRow : OpenClaim := { program := "ytdfhnemhkpplbaagreatdoor", sum := "5db5f49a641887ac35317699dc188a0156954a8fee6116cea736dd850ffa877d", func := "landfall/landfalllaw19.AbsentMatchesReference", spec := "absentMatchesReference", unfollowed := true, recurses := true, named := ["landfall/absent.signs"], apart := false, laid := [("landfall/absent.signs", laid_landfall_absent_signs)], narrowed := true }
def AbsentMatchesReferenceUptoSaid : Prop := absentMatchesReferenceUptoRow.holds Tryz.pinned (OpenSpec.upto absentMatchesReferenceSpec)

/-- 'landfalllaw19.AbsentInner', WHERE WHAT IT READS IS OF BULK AT MOST 1048576: true; the input reads as it did. -/
def absentInnerUptoRow : OpenClaim := { program := "ytdfhnemhkpplbaagreatdoor", sum := "5db5f49a641887ac35317699dc188a0156954a8fee6116cea736dd850ffa877d", func := "landfall/landfalllaw19.AbsentInner", spec := "absentInner", unfollowed := true, recurses := true, named := ["landfall/absent.signs"], apart := false, laid := [("landfall/absent.signs", laid_landfall_absent_signs)], narrowed := true }
def AbsentInnerUptoSaid : Prop := absentInnerUptoRow.holds Tryz.pinned (OpenSpec.upto absentInnerSpec)

/-- 'landfalllaw19.AbsentKeeps', WHERE WHAT IT READS IS OF BULK AT MOST 1048576: true; the input reads as it did. -/
def absentKeepsUptoRow : OpenClaim := { program := "ytdfhnemhkpplbaagreatdoor", sum := "5db5f49a641887ac35317699dc188a0156954a8fee6116cea736dd850ffa877d", func := "landfall/landfalllaw19.AbsentKeeps", spec := "absentKeeps", unfollowed := true, recurses := true, named := ["landfall/absent.signs"], apart := false, laid := [("landfall/absent.signs", laid_landfall_absent_signs)], narrowed := true }
def AbsentKeepsUptoSaid : Prop := absentKeepsUptoRow.holds Tryz.pinned (OpenSpec.upto absentKeepsSpec)

/-- 'landfalllaw19.AbsentGoes', WHERE WHAT IT READS IS OF BULK AT MOST 1048576: true; the input reads as it did. -/
def absentGoesUptoRow : OpenClaim := { program := "ytdfhnemhkpplbaagreatdoor", sum := "5db5f49a641887ac35317699dc188a0156954a8fee6116cea736dd850ffa877d", func := "landfall/landfalllaw19.AbsentGoes", spec := "absentGoes", unfollowed := true, recurses := true, named := ["landfall/absent.signs"], apart := false, laid := [("landfall/absent.signs", laid_landfall_absent_signs)], narrowed := true }
def AbsentGoesUptoSaid : Prop := absentGoesUptoRow.holds Tryz.pinned (OpenSpec.upto absentGoesSpec)

end Rows
end Go.Proofs.YtdfhnemhkpplbaaGreatDoor
