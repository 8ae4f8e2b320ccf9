/-
  DERIVED. GIVEN WITH THE SEED: THE CARDS: each row of YtdfhnemhkpplbaaGreatDoorRows.lean that lists a variable, with what it lists TIED to the program's text (the seventh form; the later family's looks); each row that meets fmt, with fmt's text TOLD by the authors' own Lean function (tested against real Go, not proved from fmt's source: count such statements apart). THE CARD IS WHAT COUNTS. Prove the row's statement (the work); the ties are given (YtdfhnemhkpplbaaGreatDoorTie.lean); close each card by the builder's one call (the guide's Derived/Test/ToyasCard.lean, 'card_holds'). Laid BY PROGRAM, IN A SANDBOX (cutbox-door.mjs). By AI agents, Wed Nov 11 2026. No macro, syntax, notation, axiom, sorry.
-/
import Derived.Test.YtdfhnemhkpplbaaGreatDoorRows
import GoSem.ClaimSeven
namespace Go.Proofs.YtdfhnemhkpplbaaGreatDoor
namespace Rows

/-- THE TIED CARD OF 'landfalllaw19.AbsentMatchesReference'. -/
def absentMatchesReferenceCard : Claim7 := { stood := { row := absentMatchesReferenceRow, standIns := [], harness := (true, "582eb6a95592675d1c055729e2700fe48e7209bdb155c0bd81e963d481ccde95"), looks := false }, kinds := [], alts := [], laidByText := true, laidKinds := [.data], laidTests := true, laidLooks := .later }
def AbsentMatchesReferenceCardSaid : Prop := Claim7.holds Tryz.pinned (.plain (OpenSpec.ofChange absentMatchesReferenceSpec)) absentMatchesReferenceCard

/-- THE TIED CARD OF 'landfalllaw19.AbsentInner'. -/
def absentInnerCard : Claim7 := { stood := { row := absentInnerRow, standIns := [], harness := (true, "582eb6a95592675d1c055729e2700fe48e7209bdb155c0bd81e963d481ccde95"), looks := false }, kinds := [], alts := [], laidByText := true, laidKinds := [.data], laidTests := true, laidLooks := .later }
def AbsentInnerCardSaid : Prop := Claim7.holds Tryz.pinned (.plain (OpenSpec.ofChange absentInnerSpec)) absentInnerCard

/-- THE TIED CARD OF 'landfalllaw19.AbsentKeeps'. -/
def absentKeepsCard : Claim7 := { stood := { row := absentKeepsRow, standIns := [], harness := (true, "582eb6a95592675d1c055729e2700fe48e7209bdb155c0bd81e963d481ccde95"), looks := false }, kinds := [], alts := [], laidByText := true, laidKinds := [.data], laidTests := true, laidLooks := .later }
def AbsentKeepsCardSaid : Prop := Claim7.holds Tryz.pinned (.plain (OpenSpec.ofChange absentKeepsSpec)) absentKeepsCard

/-- THE TIED CARD OF 'landfalllaw19.AbsentGoes'. -/
def absentGoesCard : Claim7 := { stood := { row := absentGoesRow, standIns := [], harness := (true, "582eb6a95592675d1c055729e2700fe48e7209bdb155c0bd81e963d481ccde95"), looks := false }, kinds := [], alts := [], laidByText := true, laidKinds := [.data], laidTests := true, laidLooks := .later }
def AbsentGoesCardSaid : Prop := Claim7.holds Tryz.pinned (.plain (OpenSpec.ofChange absentGoesSpec)) absentGoesCard

/-- THE SECOND FORM's CARD OF 'landfalllaw19.AbsentMatchesReference'. -/
def absentMatchesReferenceUptoCard : Claim7 := { stood := { row := absentMatchesReferenceUptoRow, standIns := [], harness := (true, "582eb6a95592675d1c055729e2700fe48e7209bdb155c0bd81e963d481ccde95"), looks := false }, kinds := [], alts := [], laidByText := true, laidKinds := [.data], laidTests := true, laidLooks := .later }
def AbsentMatchesReferenceUptoCardSaid : Prop := Claim7.holds Tryz.pinned (.plain (OpenSpec.upto absentMatchesReferenceSpec)) absentMatchesReferenceUptoCard

/-- THE SECOND FORM's CARD OF 'landfalllaw19.AbsentInner'. -/
def absentInnerUptoCard : Claim7 := { stood := { row := absentInnerUptoRow, standIns := [], harness := (true, "582eb6a95592675d1c055729e2700fe48e7209bdb155c0bd81e963d481ccde95"), looks := false }, kinds := [], alts := [], laidByText := true, laidKinds := [.data], laidTests := true, laidLooks := .later }
def AbsentInnerUptoCardSaid : Prop := Claim7.holds Tryz.pinned (.plain (OpenSpec.upto absentInnerSpec)) absentInnerUptoCard

/-- THE SECOND FORM's CARD OF 'landfalllaw19.AbsentKeeps'. -/
def absentKeepsUptoCard : Claim7 := { stood := { row := absentKeepsUptoRow, standIns := [], harness := (true, "582eb6a95592675d1c055729e2700fe48e7209bdb155c0bd81e963d481ccde95"), looks := false }, kinds := [], alts := [], laidByText := true, laidKinds := [.data], laidTests := true, laidLooks := .later }
def AbsentKeepsUptoCardSaid : Prop := Claim7.holds Tryz.pinned (.plain (OpenSpec.upto absentKeepsSpec)) absentKeepsUptoCard

/-- THE SECOND FORM's CARD OF 'landfalllaw19.AbsentGoes'. -/
def absentGoesUptoCard : Claim7 := { stood := { row := absentGoesUptoRow, standIns := [], harness := (true, "582eb6a95592675d1c055729e2700fe48e7209bdb155c0bd81e963d481ccde95"), looks := false }, kinds := [], alts := [], laidByText := true, laidKinds := [.data], laidTests := true, laidLooks := .later }
def AbsentGoesUptoCardSaid : Prop := Claim7.holds Tryz.pinned (.plain (OpenSpec.upto absentGoesSpec)) absentGoesUptoCard
end Rows
end Go.Proofs.YtdfhnemhkpplbaaGreatDoor
