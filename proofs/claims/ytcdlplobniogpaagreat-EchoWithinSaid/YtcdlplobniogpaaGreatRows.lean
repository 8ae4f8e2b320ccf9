/-
  No cell of these rows narrows 'for every input' (looked for: loops, veiled, ifaces, maps, wideKeys, modest, calm, conditions, laid).
  DERIVED. THE GIVEN ROWS OF THIS SEAT. 6 by the template 'for every input the law returns true; each argument reads behind the call as it read before'; 0 by the template 'total and deterministic' (their statements: YtcdlplobniogpaaGreatTotals.lean).
  GIVEN WITH THE SEED: the statements are not yours to turn. If you find one false, say at which input.
  Laid BY PROGRAM, IN A SANDBOX (cutbox-rows.mjs): the forced cells as the released guide's own fill.sh prints them over the translation 67532bc669e2f667… (all of the seat's roots in one cut). By AI agents, Wed Nov 11 2026. No macro, syntax, notation, axiom, sorry.
-/
import Derived.Test.YtcdlplobniogpaaGreatChecked
import GoSem.Claim
import GoSem.ClaimJoined
import GoSem.ClaimMapViews
import Derived.JoinedTies
import Derived.KernelRfl
namespace Go.Proofs.YtcdlplobniogpaaGreat
/- THE CELL 'sum', in the pinned program and in every row, IS THE sha256 OF THE DUMP (.gsa) THAT YtcdlplobniogpaaGreatProg.lean LOADS. Nothing in Lean hashes anything: it is a label: what it is worth is what the hold of that sum in a sandbox is worth. -/
noncomputable def Tryz.pinned : Pinned := { name := "ytcdlplobniogpaagreat", sum := "67532bc669e2f667d70206b6c6b84d475f5b69b48f33aa720b327ffb366dbbee", checked := Tryz.checked }
namespace Rows
def none {H : Type} : Left H := { results := [], args := [] }

/-- 'landfalllaw18.EchoMatchesReference': WHATEVER THE INPUT: true; the input reads as it did. -/
def echoMatchesReferenceSpec : ChangeSpec := { name := "echoMatchesReference", fn := fun _ => fun
  | [d1, d2, d3, d4, d5, d6] => { results := [.lit (.bool true)], args := [d1, d2, d3, d4, d5, d6] }
  | _ => none }
def echoMatchesReferenceRow : OpenClaim := { program := "ytcdlplobniogpaagreat", sum := "67532bc669e2f667d70206b6c6b84d475f5b69b48f33aa720b327ffb366dbbee", func := "landfall/landfalllaw18.EchoMatchesReference", spec := "echoMatchesReference", unfollowed := true, recurses := true, apart := false }
def EchoMatchesReferenceSaid : Prop := echoMatchesReferenceRow.holds Tryz.pinned (OpenSpec.ofChange echoMatchesReferenceSpec)

/-- ITS FALSE NEIGHBOUR: 'it returns false'. Refute it at one input. -/
def echoMatchesReferenceWrong : ChangeSpec := { name := "echoMatchesReference", fn := fun _ => fun
  | [d1, d2, d3, d4, d5, d6] => { results := [.lit (.bool false)], args := [d1, d2, d3, d4, d5, d6] }
  | _ => none }
def EchoMatchesReferenceWrongFalsely : Prop := echoMatchesReferenceRow.holds Tryz.pinned (OpenSpec.ofChange echoMatchesReferenceWrong)

/-- 'landfalllaw18.EchoKeeps': WHATEVER THE INPUT: true; the input reads as it did. -/
def echoKeepsSpec : ChangeSpec := { name := "echoKeeps", fn := fun _ => fun
  | [d1, d2, d3, d4, d5, d6] => { results := [.lit (.bool true)], args := [d1, d2, d3, d4, d5, d6] }
  | _ => none }
def echoKeepsRow : OpenClaim := { program := "ytcdlplobniogpaagreat", sum := "67532bc669e2f667d70206b6c6b84d475f5b69b48f33aa720b327ffb366dbbee", func := "landfall/landfalllaw18.EchoKeeps", spec := "echoKeeps", unfollowed := true, recurses := true, apart := false }
def EchoKeepsSaid : Prop := echoKeepsRow.holds Tryz.pinned (OpenSpec.ofChange echoKeepsSpec)

/-- ITS FALSE NEIGHBOUR: 'it returns false'. Refute it at one input. -/
def echoKeepsWrong : ChangeSpec := { name := "echoKeeps", fn := fun _ => fun
  | [d1, d2, d3, d4, d5, d6] => { results := [.lit (.bool false)], args := [d1, d2, d3, d4, d5, d6] }
  | _ => none }
def EchoKeepsWrongFalsely : Prop := echoKeepsRow.holds Tryz.pinned (OpenSpec.ofChange echoKeepsWrong)

/-- 'landfalllaw18.EchoStays': WHATEVER THE INPUT: true; the input reads as it did. -/
def echoStaysSpec : ChangeSpec := { name := "echoStays", fn := fun _ => fun
  | [d1, d2, d3, d4, d5] => { results := [.lit (.bool true)], args := [d1, d2, d3, d4, d5] }
  | _ => none }
def echoStaysRow : OpenClaim := { program := "ytcdlplobniogpaagreat", sum := "67532bc669e2f667d70206b6c6b84d475f5b69b48f33aa720b327ffb366dbbee", func := "landfall/landfalllaw18.EchoStays", spec := "echoStays", unfollowed := true, recurses := true, apart := false }
def EchoStaysSaid : Prop := echoStaysRow.holds Tryz.pinned (OpenSpec.ofChange echoStaysSpec)

/-- ITS FALSE NEIGHBOUR: 'it returns false'. Refute it at one input. -/
def echoStaysWrong : ChangeSpec := { name := "echoStays", fn := fun _ => fun
  | [d1, d2, d3, d4, d5] => { results := [.lit (.bool false)], args := [d1, d2, d3, d4, d5] }
  | _ => none }
def EchoStaysWrongFalsely : Prop := echoStaysRow.holds Tryz.pinned (OpenSpec.ofChange echoStaysWrong)

/-- 'landfalllaw18.EchoWider': WHATEVER THE INPUT: true; the input reads as it did. -/
def echoWiderSpec : ChangeSpec := { name := "echoWider", fn := fun _ => fun
  | [d1, d2, d3, d4, d5, d6, d7] => { results := [.lit (.bool true)], args := [d1, d2, d3, d4, d5, d6, d7] }
  | _ => none }
def echoWiderRow : OpenClaim := { program := "ytcdlplobniogpaagreat", sum := "67532bc669e2f667d70206b6c6b84d475f5b69b48f33aa720b327ffb366dbbee", func := "landfall/landfalllaw18.EchoWider", spec := "echoWider", unfollowed := true, recurses := true, apart := false }
def EchoWiderSaid : Prop := echoWiderRow.holds Tryz.pinned (OpenSpec.ofChange echoWiderSpec)

/-- ITS FALSE NEIGHBOUR: 'it returns false'. Refute it at one input. -/
def echoWiderWrong : ChangeSpec := { name := "echoWider", fn := fun _ => fun
  | [d1, d2, d3, d4, d5, d6, d7] => { results := [.lit (.bool false)], args := [d1, d2, d3, d4, d5, d6, d7] }
  | _ => none }
def EchoWiderWrongFalsely : Prop := echoWiderRow.holds Tryz.pinned (OpenSpec.ofChange echoWiderWrong)

/-- 'landfalllaw18.EchoTides': WHATEVER THE INPUT: true; the input reads as it did. -/
def echoTidesSpec : ChangeSpec := { name := "echoTides", fn := fun _ => fun
  | [d1, d2, d3, d4, d5, d6] => { results := [.lit (.bool true)], args := [d1, d2, d3, d4, d5, d6] }
  | _ => none }
def echoTidesRow : OpenClaim := { program := "ytcdlplobniogpaagreat", sum := "67532bc669e2f667d70206b6c6b84d475f5b69b48f33aa720b327ffb366dbbee", func := "landfall/landfalllaw18.EchoTides", spec := "echoTides", unfollowed := true, recurses := true, apart := false }
def EchoTidesSaid : Prop := echoTidesRow.holds Tryz.pinned (OpenSpec.ofChange echoTidesSpec)

/-- ITS FALSE NEIGHBOUR: 'it returns false'. Refute it at one input. -/
def echoTidesWrong : ChangeSpec := { name := "echoTides", fn := fun _ => fun
  | [d1, d2, d3, d4, d5, d6] => { results := [.lit (.bool false)], args := [d1, d2, d3, d4, d5, d6] }
  | _ => none }
def EchoTidesWrongFalsely : Prop := echoTidesRow.holds Tryz.pinned (OpenSpec.ofChange echoTidesWrong)

/-- 'landfalllaw18.EchoWithin': WHATEVER THE INPUT: true; the input reads as it did. -/
def echoWithinSpec : ChangeSpec := { name := "echoWithin", fn := fun _ => fun
  | [d1, d2, d3, d4, d5] => { results := [.lit (.bool true)], args := [d1, d2, d3, d4, d5] }
  | _ => none }
def echoWithinRow : OpenClaim := { program := "ytcdlplobniogpaagreat", sum := "67532bc669e2f667d70206b6c6b84d475f5b69b48f33aa720b327ffb366dbbee", func := "landfall/landfalllaw18.EchoWithin", spec := "echoWithin", unfollowed := true, recurses := true, apart := false }
def EchoWithinSaid : Prop := echoWithinRow.holds Tryz.pinned (OpenSpec.ofChange echoWithinSpec)

/-- ITS FALSE NEIGHBOUR: 'it returns false'. Refute it at one input. -/
def echoWithinWrong : ChangeSpec := { name := "echoWithin", fn := fun _ => fun
  | [d1, d2, d3, d4, d5] => { results := [.lit (.bool false)], args := [d1, d2, d3, d4, d5] }
  | _ => none }
def EchoWithinWrongFalsely : Prop := echoWithinRow.holds Tryz.pinned (OpenSpec.ofChange echoWithinWrong)

/- THE SECOND FORM. 'bulk': how many values and letters a reading holds, each counted each time it is reached (what is shared counts as often as it is met; a slice's spare places count too). A statement '..UptoSaid' is the law's where the arguments, and the package variables that the reading takes, are together of bulk at most 1048576: NARROWER than '..Said'. Prove '..Said' where nothing that the law and all that it calls make is longer than what came in: it says more and counts as full. Else prove '..UptoSaid'. A law counts once. -/
mutual
def uptoBulk {H : Type} : DataW H → Nat
  | .lit (.string bytes) => bytes.length + 1
  | .lit _ => 1
  | .nil => 1
  | .ptr d => uptoBulk d + 1
  | .slice elems spare => uptoBulkAll elems + uptoBulkAll spare + 1
  | .agg parts => uptoBulkAll parts + 1
  | .iface _ d => uptoBulk d + 1
  | .map entries => uptoBulkEntries entries + 1
  | .held _ => 1
def uptoBulkAll {H : Type} : List (DataW H) → Nat
  | [] => 0
  | d :: r => uptoBulk d + uptoBulkAll r
def uptoBulkEntries {H : Type} : List (Lit × DataW H) → Nat
  | [] => 0
  | x :: r => uptoBulkEntry x + uptoBulkEntries r
def uptoBulkEntry {H : Type} : Lit × DataW H → Nat
  | (.string bytes, d) => bytes.length + uptoBulk d + 1
  | (_, d) => uptoBulk d + 1
 end
def uptoSmall : (H : Type) → List (DataW H) → Bool := fun _ ds => decide (uptoBulkAll ds ≤ 1048576)
def OpenSpec.upto (s : _root_.Go.ChangeSpec) : _root_.Go.OpenSpec := { _root_.Go.OpenSpec.ofChange s with cond := some uptoSmall }

/-- 'landfalllaw18.EchoMatchesReference', WHERE WHAT IT READS IS OF BULK AT MOST 1048576: true; the input reads as it did. -/
def echoMatchesReferenceUptoRow : OpenClaim := { program := "ytcdlplobniogpaagreat", sum := "67532bc669e2f667d70206b6c6b84d475f5b69b48f33aa720b327ffb366dbbee", func := "landfall/landfalllaw18.EchoMatchesReference", spec := "echoMatchesReference", unfollowed := true, recurses := true, apart := false, narrowed := true }
def EchoMatchesReferenceUptoSaid : Prop := echoMatchesReferenceUptoRow.holds Tryz.pinned (OpenSpec.upto echoMatchesReferenceSpec)

/-- 'landfalllaw18.EchoKeeps', WHERE WHAT IT READS IS OF BULK AT MOST 1048576: true; the input reads as it did. -/
def echoKeepsUptoRow : OpenClaim := { program := "ytcdlplobniogpaagreat", sum := "67532bc669e2f667d70206b6c6b84d475f5b69b48f33aa720b327ffb366dbbee", func := "landfall/landfalllaw18.EchoKeeps", spec := "echoKeeps", unfollowed := true, recurses := true, apart := false, narrowed := true }
def EchoKeepsUptoSaid : Prop := echoKeepsUptoRow.holds Tryz.pinned (OpenSpec.upto echoKeepsSpec)

/-- 'landfalllaw18.EchoStays', WHERE WHAT IT READS IS OF BULK AT MOST 1048576: true; the input reads as it did. -/
def echoStaysUptoRow : OpenClaim := { program := "ytcdlplobniogpaagreat", sum := "67532bc669e2f667d70206b6c6b84d475f5b69b48f33aa720b327ffb366dbbee", func := "landfall/landfalllaw18.EchoStays", spec := "echoStays", unfollowed := true, recurses := true, apart := false, narrowed := true }
def EchoStaysUptoSaid : Prop := echoStaysUptoRow.holds Tryz.pinned (OpenSpec.upto echoStaysSpec)

/-- 'landfalllaw18.EchoWider', WHERE WHAT IT READS IS OF BULK AT MOST 1048576: true; the input reads as it did. -/
def echoWiderUptoRow : OpenClaim := { program := "ytcdlplobniogpaagreat", sum := "67532bc669e2f667d70206b6c6b84d475f5b69b48f33aa720b327ffb366dbbee", func := "landfall/landfalllaw18.EchoWider", spec := "echoWider", unfollowed := true, recurses := true, apart := false, narrowed := true }
def EchoWiderUptoSaid : Prop := echoWiderUptoRow.holds Tryz.pinned (OpenSpec.upto echoWiderSpec)

/-- 'landfalllaw18.EchoTides', WHERE WHAT IT READS IS OF BULK AT MOST 1048576: true; the input reads as it did. -/
def echoTidesUptoRow : OpenClaim := { program := "ytcdlplobniogpaagreat", sum := "67532bc669e2f667d70206b6c6b84d475f5b69b48f33aa720b327ffb366dbbee", func := "landfall/landfalllaw18.EchoTides", spec := "echoTides", unfollowed := true, recurses := true, apart := false, narrowed := true }
def EchoTidesUptoSaid : Prop := echoTidesUptoRow.holds Tryz.pinned (OpenSpec.upto echoTidesSpec)

/-- 'landfalllaw18.EchoWithin', WHERE WHAT IT READS IS OF BULK AT MOST 1048576: true; the input reads as it did. -/
def echoWithinUptoRow : OpenClaim := { program := "ytcdlplobniogpaagreat", sum := "67532bc669e2f667d70206b6c6b84d475f5b69b48f33aa720b327ffb366dbbee", func := "landfall/landfalllaw18.EchoWithin", spec := "echoWithin", unfollowed := true, recurses := true, apart := false, narrowed := true }
def EchoWithinUptoSaid : Prop := echoWithinUptoRow.holds Tryz.pinned (OpenSpec.upto echoWithinSpec)

end Rows
end Go.Proofs.YtcdlplobniogpaaGreat
