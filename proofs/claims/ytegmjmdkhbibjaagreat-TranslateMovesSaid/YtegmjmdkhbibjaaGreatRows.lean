/-
  No cell of these rows narrows 'for every input' (looked for: loops, veiled, ifaces, maps, wideKeys, modest, calm, conditions, laid).
  DERIVED. THE GIVEN ROWS OF THIS SEAT. 7 by the template 'for every input the law returns true; each argument reads behind the call as it read before'; 0 by the template 'total and deterministic' (their statements: YtegmjmdkhbibjaaGreatTotals.lean).
  GIVEN WITH THE SEED: the statements are not yours to turn. If you find one false, say at which input.
  Laid BY PROGRAM, IN A SANDBOX (cutbox-rows.mjs): the forced cells as the released guide's own fill.sh prints them over the translation 086c52984f032a81… (all of the seat's roots in one cut). By AI agents, Wed Nov 11 2026. No macro, syntax, notation, axiom, sorry.
-/
import Derived.Test.YtegmjmdkhbibjaaGreatChecked
import GoSem.Claim
import GoSem.ClaimJoined
import GoSem.ClaimMapViews
import Derived.JoinedTies
import Derived.KernelRfl
namespace Go.Proofs.YtegmjmdkhbibjaaGreat
/- THE CELL 'sum', in the pinned program and in every row, IS THE sha256 OF THE DUMP (.gsa) THAT YtegmjmdkhbibjaaGreatProg.lean LOADS. Nothing in Lean hashes anything: it is a label: what it is worth is what the hold of that sum in a sandbox is worth. -/
noncomputable def Tryz.pinned : Pinned := { name := "ytegmjmdkhbibjaagreat", sum := "086c52984f032a81de546718e1015a9b25c5c46b49ee740ce4cf29bea5562f76", checked := Tryz.checked }
namespace Rows
def none {H : Type} : Left H := { results := [], args := [] }

/-- 'landfalllaw30.TranslateMatchesReference': WHATEVER THE INPUT: true; the input reads as it did. -/
def translateMatchesReferenceSpec : ChangeSpec := { name := "translateMatchesReference", fn := fun _ => fun
  | [d1, d2, d3, d4] => { results := [.lit (.bool true)], args := [d1, d2, d3, d4] }
  | _ => none }
def translateMatchesReferenceRow : OpenClaim := { program := "ytegmjmdkhbibjaagreat", sum := "086c52984f032a81de546718e1015a9b25c5c46b49ee740ce4cf29bea5562f76", func := "landfall/landfalllaw30.TranslateMatchesReference", spec := "translateMatchesReference", unfollowed := true, recurses := true, apart := false }
def TranslateMatchesReferenceSaid : Prop := translateMatchesReferenceRow.holds Tryz.pinned (OpenSpec.ofChange translateMatchesReferenceSpec)

/-- ITS FALSE NEIGHBOUR: 'it returns false'. Refute it at one input. -/
def translateMatchesReferenceWrong : ChangeSpec := { name := "translateMatchesReference", fn := fun _ => fun
  | [d1, d2, d3, d4] => { results := [.lit (.bool false)], args := [d1, d2, d3, d4] }
  | _ => none }
def TranslateMatchesReferenceWrongFalsely : Prop := translateMatchesReferenceRow.holds Tryz.pinned (OpenSpec.ofChange translateMatchesReferenceWrong)

/-- 'landfalllaw30.TranslateTouch': WHATEVER THE INPUT: true; the input reads as it did. -/
def translateTouchSpec : ChangeSpec := { name := "translateTouch", fn := fun _ => fun
  | [d1, d2, d3, d4] => { results := [.lit (.bool true)], args := [d1, d2, d3, d4] }
  | _ => none }
def translateTouchRow : OpenClaim := { program := "ytegmjmdkhbibjaagreat", sum := "086c52984f032a81de546718e1015a9b25c5c46b49ee740ce4cf29bea5562f76", func := "landfall/landfalllaw30.TranslateTouch", spec := "translateTouch", unfollowed := true, recurses := true, apart := false }
def TranslateTouchSaid : Prop := translateTouchRow.holds Tryz.pinned (OpenSpec.ofChange translateTouchSpec)

/-- ITS FALSE NEIGHBOUR: 'it returns false'. Refute it at one input. -/
def translateTouchWrong : ChangeSpec := { name := "translateTouch", fn := fun _ => fun
  | [d1, d2, d3, d4] => { results := [.lit (.bool false)], args := [d1, d2, d3, d4] }
  | _ => none }
def TranslateTouchWrongFalsely : Prop := translateTouchRow.holds Tryz.pinned (OpenSpec.ofChange translateTouchWrong)

/-- 'landfalllaw30.TranslateSelf': WHATEVER THE INPUT: true; the input reads as it did. -/
def translateSelfSpec : ChangeSpec := { name := "translateSelf", fn := fun _ => fun
  | [d1, d2, d3] => { results := [.lit (.bool true)], args := [d1, d2, d3] }
  | _ => none }
def translateSelfRow : OpenClaim := { program := "ytegmjmdkhbibjaagreat", sum := "086c52984f032a81de546718e1015a9b25c5c46b49ee740ce4cf29bea5562f76", func := "landfall/landfalllaw30.TranslateSelf", spec := "translateSelf", unfollowed := true, recurses := true, apart := false }
def TranslateSelfSaid : Prop := translateSelfRow.holds Tryz.pinned (OpenSpec.ofChange translateSelfSpec)

/-- ITS FALSE NEIGHBOUR: 'it returns false'. Refute it at one input. -/
def translateSelfWrong : ChangeSpec := { name := "translateSelf", fn := fun _ => fun
  | [d1, d2, d3] => { results := [.lit (.bool false)], args := [d1, d2, d3] }
  | _ => none }
def TranslateSelfWrongFalsely : Prop := translateSelfRow.holds Tryz.pinned (OpenSpec.ofChange translateSelfWrong)

/-- 'landfalllaw30.TranslateChains': WHATEVER THE INPUT: true; the input reads as it did. -/
def translateChainsSpec : ChangeSpec := { name := "translateChains", fn := fun _ => fun
  | [d1, d2, d3] => { results := [.lit (.bool true)], args := [d1, d2, d3] }
  | _ => none }
def translateChainsRow : OpenClaim := { program := "ytegmjmdkhbibjaagreat", sum := "086c52984f032a81de546718e1015a9b25c5c46b49ee740ce4cf29bea5562f76", func := "landfall/landfalllaw30.TranslateChains", spec := "translateChains", unfollowed := true, recurses := true, apart := false }
def TranslateChainsSaid : Prop := translateChainsRow.holds Tryz.pinned (OpenSpec.ofChange translateChainsSpec)

/-- ITS FALSE NEIGHBOUR: 'it returns false'. Refute it at one input. -/
def translateChainsWrong : ChangeSpec := { name := "translateChains", fn := fun _ => fun
  | [d1, d2, d3] => { results := [.lit (.bool false)], args := [d1, d2, d3] }
  | _ => none }
def TranslateChainsWrongFalsely : Prop := translateChainsRow.holds Tryz.pinned (OpenSpec.ofChange translateChainsWrong)

/-- 'landfalllaw30.TranslateMoves': WHATEVER THE INPUT: true; the input reads as it did. -/
def translateMovesSpec : ChangeSpec := { name := "translateMoves", fn := fun _ => fun
  | [d1, d2, d3, d4] => { results := [.lit (.bool true)], args := [d1, d2, d3, d4] }
  | _ => none }
def translateMovesRow : OpenClaim := { program := "ytegmjmdkhbibjaagreat", sum := "086c52984f032a81de546718e1015a9b25c5c46b49ee740ce4cf29bea5562f76", func := "landfall/landfalllaw30.TranslateMoves", spec := "translateMoves", unfollowed := true, recurses := true, apart := false }
def TranslateMovesSaid : Prop := translateMovesRow.holds Tryz.pinned (OpenSpec.ofChange translateMovesSpec)

/-- ITS FALSE NEIGHBOUR: 'it returns false'. Refute it at one input. -/
def translateMovesWrong : ChangeSpec := { name := "translateMoves", fn := fun _ => fun
  | [d1, d2, d3, d4] => { results := [.lit (.bool false)], args := [d1, d2, d3, d4] }
  | _ => none }
def TranslateMovesWrongFalsely : Prop := translateMovesRow.holds Tryz.pinned (OpenSpec.ofChange translateMovesWrong)

/-- 'landfalllaw30.TranslatePlaces': WHATEVER THE INPUT: true; the input reads as it did. -/
def translatePlacesSpec : ChangeSpec := { name := "translatePlaces", fn := fun _ => fun
  | [d1, d2, d3, d4] => { results := [.lit (.bool true)], args := [d1, d2, d3, d4] }
  | _ => none }
def translatePlacesRow : OpenClaim := { program := "ytegmjmdkhbibjaagreat", sum := "086c52984f032a81de546718e1015a9b25c5c46b49ee740ce4cf29bea5562f76", func := "landfall/landfalllaw30.TranslatePlaces", spec := "translatePlaces", unfollowed := true, recurses := true, apart := false }
def TranslatePlacesSaid : Prop := translatePlacesRow.holds Tryz.pinned (OpenSpec.ofChange translatePlacesSpec)

/-- ITS FALSE NEIGHBOUR: 'it returns false'. Refute it at one input. -/
def translatePlacesWrong : ChangeSpec := { name := "translatePlaces", fn := fun _ => fun
  | [d1, d2, d3, d4] => { results := [.lit (.bool false)], args := [d1, d2, d3, d4] }
  | _ => none }
def TranslatePlacesWrongFalsely : Prop := translatePlacesRow.holds Tryz.pinned (OpenSpec.ofChange translatePlacesWrong)

/-- 'landfalllaw30.TranslateKeeps': WHATEVER THE INPUT: true; the input reads as it did. -/
def translateKeepsSpec : ChangeSpec := { name := "translateKeeps", fn := fun _ => fun
  | [d1, d2, d3] => { results := [.lit (.bool true)], args := [d1, d2, d3] }
  | _ => none }
def translateKeepsRow : OpenClaim := { program := "ytegmjmdkhbibjaagreat", sum := "086c52984f032a81de546718e1015a9b25c5c46b49ee740ce4cf29bea5562f76", func := "landfall/landfalllaw30.TranslateKeeps", spec := "translateKeeps", unfollowed := true, recurses := true, apart := false }
def TranslateKeepsSaid : Prop := translateKeepsRow.holds Tryz.pinned (OpenSpec.ofChange translateKeepsSpec)

/-- ITS FALSE NEIGHBOUR: 'it returns false'. Refute it at one input. -/
def translateKeepsWrong : ChangeSpec := { name := "translateKeeps", fn := fun _ => fun
  | [d1, d2, d3] => { results := [.lit (.bool false)], args := [d1, d2, d3] }
  | _ => none }
def TranslateKeepsWrongFalsely : Prop := translateKeepsRow.holds Tryz.pinned (OpenSpec.ofChange translateKeepsWrong)

/- THE SECOND FORM. 'bulk': how many values and letters a reading holds, each counted each time it is reached (what is shared counts as often as it is met; a slice's spare places count too). A statement '..UptoSaid' is the law's where the arguments, and the package variables that the reading takes, are together of bulk at most 1048576: NARROWER than '..Said'. Prove '..Said' where nothing that the law and all that it calls make is longer than what came in: it says more and counts as full. Else prove '..UptoSaid'. A law counts once. -/
mutual
def uptoBulk {H : Type} : DataW H → Nat
  | .lit (.string bytes) => bytes.length + 1
  | .lit _ => 1
  | .nil => 1
  | .ptr d => uptoBulk d + 1
  | .slice elems spare => uptoBulkAll elems + uptoBulkAll spare + 1
  | .agg parts => uptoBulkAll parts + 1
  | .iface _ d => uptoBulk d + 1
  | .map entries => uptoBulkEntries entries + 1
  | .held _ => 1
def uptoBulkAll {H : Type} : List (DataW H) → Nat
  | [] => 0
  | d :: r => uptoBulk d + uptoBulkAll r
def uptoBulkEntries {H : Type} : List (Lit × DataW H) → Nat
  | [] => 0
  | x :: r => uptoBulkEntry x + uptoBulkEntries r
def uptoBulkEntry {H : Type} : Lit × DataW H → Nat
  | (.string bytes, d) => bytes.length + uptoBulk d + 1
  | (_, d) => uptoBulk d + 1
 end
def uptoSmall : (H : Type) → List (DataW H) → Bool := fun _ ds => decide (uptoBulkAll ds ≤ 1048576)
def OpenSpec.upto (s : _root_.Go.ChangeSpec) : _root_.Go.OpenSpec := { _root_.Go.OpenSpec.ofChange s with cond := some uptoSmall }

/-- 'landfalllaw30.TranslateMatchesReference', WHERE WHAT IT READS IS OF BULK AT MOST 1048576: true; the input reads as it did. -/
def translateMatchesReferenceUptoRow : OpenClaim := { program := "ytegmjmdkhbibjaagreat", sum := "086c52984f032a81de546718e1015a9b25c5c46b49ee740ce4cf29bea5562f76", func := "landfall/landfalllaw30.TranslateMatchesReference", spec := "translateMatchesReference", unfollowed := true, recurses := true, apart := false, narrowed := true }
def TranslateMatchesReferenceUptoSaid : Prop := translateMatchesReferenceUptoRow.holds Tryz.pinned (OpenSpec.upto translateMatchesReferenceSpec)

/-- 'landfalllaw30.TranslateTouch', WHERE WHAT IT READS IS OF BULK AT MOST 1048576: true; the input reads as it did. -/
def translateTouchUptoRow : OpenClaim := { program := "ytegmjmdkhbibjaagreat", sum := "086c52984f032a81de546718e1015a9b25c5c46b49ee740ce4cf29bea5562f76", func := "landfall/landfalllaw30.TranslateTouch", spec := "translateTouch", unfollowed := true, recurses := true, apart := false, narrowed := true }
def TranslateTouchUptoSaid : Prop := translateTouchUptoRow.holds Tryz.pinned (OpenSpec.upto translateTouchSpec)

/-- 'landfalllaw30.TranslateSelf', WHERE WHAT IT READS IS OF BULK AT MOST 1048576: true; the input reads as it did. -/
def translateSelfUptoRow : OpenClaim := { program := "ytegmjmdkhbibjaagreat", sum := "086c52984f032a81de546718e1015a9b25c5c46b49ee740ce4cf29bea5562f76", func := "landfall/landfalllaw30.TranslateSelf", spec := "translateSelf", unfollowed := true, recurses := true, apart := false, narrowed := true }
def TranslateSelfUptoSaid : Prop := translateSelfUptoRow.holds Tryz.pinned (OpenSpec.upto translateSelfSpec)

/-- 'landfalllaw30.TranslateChains', WHERE WHAT IT READS IS OF BULK AT MOST 1048576: true; the input reads as it did. -/
def translateChainsUptoRow : OpenClaim := { program := "ytegmjmdkhbibjaagreat", sum := "086c52984f032a81de546718e1015a9b25c5c46b49ee740ce4cf29bea5562f76", func := "landfall/landfalllaw30.TranslateChains", spec := "translateChains", unfollowed := true, recurses := true, apart := false, narrowed := true }
def TranslateChainsUptoSaid : Prop := translateChainsUptoRow.holds Tryz.pinned (OpenSpec.upto translateChainsSpec)

/-- 'landfalllaw30.TranslateMoves', WHERE WHAT IT READS IS OF BULK AT MOST 1048576: true; the input reads as it did. -/
def translateMovesUptoRow : OpenClaim := { program := "ytegmjmdkhbibjaagreat", sum := "086c52984f032a81de546718e1015a9b25c5c46b49ee740ce4cf29bea5562f76", func := "landfall/landfalllaw30.TranslateMoves", spec := "translateMoves", unfollowed := true, recurses := true, apart := false, narrowed := true }
def TranslateMovesUptoSaid : Prop := translateMovesUptoRow.holds Tryz.pinned (OpenSpec.upto translateMovesSpec)

/-- 'landfalllaw30.TranslatePlaces', WHERE WHAT IT READS IS OF BULK AT MOST 1048576: true; the input reads as it did. -/
def translatePlacesUptoRow : OpenClaim := { program := "ytegmjmdkhbibjaagreat", sum := "086c52984f032a81de546718e1015a9b25c5c46b49ee740ce4cf29bea5562f76", func := "landfall/landfalllaw30.TranslatePlaces", spec := "translatePlaces", unfollowed := true, recurses := true, apart := false, narrowed := true }
def TranslatePlacesUptoSaid : Prop := translatePlacesUptoRow.holds Tryz.pinned (OpenSpec.upto translatePlacesSpec)

/-- 'landfalllaw30.TranslateKeeps', WHERE WHAT IT READS IS OF BULK AT MOST 1048576: true; the input reads as it did. -/
def translateKeepsUptoRow : OpenClaim := { program := "ytegmjmdkhbibjaagreat", sum := "086c52984f032a81de546718e1015a9b25c5c46b49ee740ce4cf29bea5562f76", func := "landfall/landfalllaw30.TranslateKeeps", spec := "translateKeeps", unfollowed := true, recurses := true, apart := false, narrowed := true }
def TranslateKeepsUptoSaid : Prop := translateKeepsUptoRow.holds Tryz.pinned (OpenSpec.upto translateKeepsSpec)

end Rows
end Go.Proofs.YtegmjmdkhbibjaaGreat
