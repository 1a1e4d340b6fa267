/-
  No cell of these rows narrows 'for every input' (looked for: loops, veiled, ifaces, maps, wideKeys, modest, calm, conditions, laid).
  DERIVED. THE GIVEN ROWS OF THIS SEAT. 10 by the template 'for every input the law returns true; each argument reads behind the call as it read before'; 0 by the template 'total and deterministic' (their statements: YthhcgcbbdinenaaTotals.lean).
  GIVEN WITH THE SEED: the statements are not yours to turn. If you find one false, say at which input.
  Laid BY PROGRAM, IN A SANDBOX (cutbox-rows.mjs): the forced cells as the released guide's own fill.sh prints them over the translation eae9664d5998dc17… (all of the seat's roots in one cut). By AI agents, Wed Nov 11 2026. No macro, syntax, notation, axiom, sorry.
-/
import Derived.Test.YthhcgcbbdinenaaChecked
import GoSem.Claim
import GoSem.ClaimJoined
import GoSem.ClaimMapViews
import Derived.JoinedTies
import Derived.KernelRfl
namespace Go.Proofs.Ythhcgcbbdinenaa
/- THE CELL 'sum', in the pinned program and in every row, IS THE sha256 OF THE DUMP (.gsa) THAT YthhcgcbbdinenaaProg.lean LOADS. Nothing in Lean hashes anything: it is a label: what it is worth is what the hold of that sum in a sandbox is worth. -/
noncomputable def Try.pinned : Pinned := { name := "ythhcgcbbdinenaa", sum := "eae9664d5998dc1743ff3e9c0174d5af895fb9eb87de565585d7f56e8c483544", checked := Try.checked }
namespace Rows
def none {H : Type} : Left H := { results := [], args := [] }

/-- 'wicketgatelaw02.InsnCodes': WHATEVER THE INPUT: true; the input reads as it did. -/
def insnCodesSpec : ChangeSpec := { name := "insnCodes", fn := fun _ => fun
  | [d1, d2] => { results := [.lit (.bool true)], args := [d1, d2] }
  | _ => none }
def insnCodesRow : OpenClaim := { program := "ythhcgcbbdinenaa", sum := "eae9664d5998dc1743ff3e9c0174d5af895fb9eb87de565585d7f56e8c483544", func := "wicketgate/wicketgatelaw02.InsnCodes", spec := "insnCodes", unfollowed := true, recurses := true, apart := false }
def InsnCodesSaid : Prop := insnCodesRow.holds Try.pinned (OpenSpec.ofChange insnCodesSpec)

/-- ITS FALSE NEIGHBOUR: 'it returns false'. Refute it at one input. -/
def insnCodesWrong : ChangeSpec := { name := "insnCodes", fn := fun _ => fun
  | [d1, d2] => { results := [.lit (.bool false)], args := [d1, d2] }
  | _ => none }
def InsnCodesWrongFalsely : Prop := insnCodesRow.holds Try.pinned (OpenSpec.ofChange insnCodesWrong)

/-- 'wicketgatelaw02.InsnNames': WHATEVER THE INPUT: true; the input reads as it did. -/
def insnNamesSpec : ChangeSpec := { name := "insnNames", fn := fun _ => fun
  | [d] => { results := [.lit (.bool true)], args := [d] }
  | _ => none }
def insnNamesRow : OpenClaim := { program := "ythhcgcbbdinenaa", sum := "eae9664d5998dc1743ff3e9c0174d5af895fb9eb87de565585d7f56e8c483544", func := "wicketgate/wicketgatelaw02.InsnNames", spec := "insnNames", unfollowed := true, recurses := true, apart := false }
def InsnNamesSaid : Prop := insnNamesRow.holds Try.pinned (OpenSpec.ofChange insnNamesSpec)

/-- ITS FALSE NEIGHBOUR: 'it returns false'. Refute it at one input. -/
def insnNamesWrong : ChangeSpec := { name := "insnNames", fn := fun _ => fun
  | [d] => { results := [.lit (.bool false)], args := [d] }
  | _ => none }
def InsnNamesWrongFalsely : Prop := insnNamesRow.holds Try.pinned (OpenSpec.ofChange insnNamesWrong)

/-- 'wicketgatelaw04.CheckChecks': WHATEVER THE INPUT: true; the input reads as it did. -/
def checkChecksSpec : ChangeSpec := { name := "checkChecks", fn := fun _ => fun
  | [d] => { results := [.lit (.bool true)], args := [d] }
  | _ => none }
def checkChecksRow : OpenClaim := { program := "ythhcgcbbdinenaa", sum := "eae9664d5998dc1743ff3e9c0174d5af895fb9eb87de565585d7f56e8c483544", func := "wicketgate/wicketgatelaw04.CheckChecks", spec := "checkChecks", unfollowed := true, recurses := true, apart := false }
def CheckChecksSaid : Prop := checkChecksRow.holds Try.pinned (OpenSpec.ofChange checkChecksSpec)

/-- ITS FALSE NEIGHBOUR: 'it returns false'. Refute it at one input. -/
def checkChecksWrong : ChangeSpec := { name := "checkChecks", fn := fun _ => fun
  | [d] => { results := [.lit (.bool false)], args := [d] }
  | _ => none }
def CheckChecksWrongFalsely : Prop := checkChecksRow.holds Try.pinned (OpenSpec.ofChange checkChecksWrong)

/-- 'wicketgatelaw04.CheckFirst': WHATEVER THE INPUT: true; the input reads as it did. -/
def checkFirstSpec : ChangeSpec := { name := "checkFirst", fn := fun _ => fun
  | [d1, d2, d3] => { results := [.lit (.bool true)], args := [d1, d2, d3] }
  | _ => none }
def checkFirstRow : OpenClaim := { program := "ythhcgcbbdinenaa", sum := "eae9664d5998dc1743ff3e9c0174d5af895fb9eb87de565585d7f56e8c483544", func := "wicketgate/wicketgatelaw04.CheckFirst", spec := "checkFirst", unfollowed := true, recurses := true, apart := false }
def CheckFirstSaid : Prop := checkFirstRow.holds Try.pinned (OpenSpec.ofChange checkFirstSpec)

/-- ITS FALSE NEIGHBOUR: 'it returns false'. Refute it at one input. -/
def checkFirstWrong : ChangeSpec := { name := "checkFirst", fn := fun _ => fun
  | [d1, d2, d3] => { results := [.lit (.bool false)], args := [d1, d2, d3] }
  | _ => none }
def CheckFirstWrongFalsely : Prop := checkFirstRow.holds Try.pinned (OpenSpec.ofChange checkFirstWrong)

/-- 'wicketgatelaw02.InsnEncodes': WHATEVER THE INPUT: true; the input reads as it did. -/
def insnEncodesSpec : ChangeSpec := { name := "insnEncodes", fn := fun _ => fun
  | [d] => { results := [.lit (.bool true)], args := [d] }
  | _ => none }
def insnEncodesRow : OpenClaim := { program := "ythhcgcbbdinenaa", sum := "eae9664d5998dc1743ff3e9c0174d5af895fb9eb87de565585d7f56e8c483544", func := "wicketgate/wicketgatelaw02.InsnEncodes", spec := "insnEncodes", unfollowed := true, recurses := true, apart := false }
def InsnEncodesSaid : Prop := insnEncodesRow.holds Try.pinned (OpenSpec.ofChange insnEncodesSpec)

/-- ITS FALSE NEIGHBOUR: 'it returns false'. Refute it at one input. -/
def insnEncodesWrong : ChangeSpec := { name := "insnEncodes", fn := fun _ => fun
  | [d] => { results := [.lit (.bool false)], args := [d] }
  | _ => none }
def InsnEncodesWrongFalsely : Prop := insnEncodesRow.holds Try.pinned (OpenSpec.ofChange insnEncodesWrong)

/-- 'wicketgatelaw04.CheckLonger': WHATEVER THE INPUT: true; the input reads as it did. -/
def checkLongerSpec : ChangeSpec := { name := "checkLonger", fn := fun _ => fun
  | [d1, d2] => { results := [.lit (.bool true)], args := [d1, d2] }
  | _ => none }
def checkLongerRow : OpenClaim := { program := "ythhcgcbbdinenaa", sum := "eae9664d5998dc1743ff3e9c0174d5af895fb9eb87de565585d7f56e8c483544", func := "wicketgate/wicketgatelaw04.CheckLonger", spec := "checkLonger", unfollowed := true, recurses := true, apart := false }
def CheckLongerSaid : Prop := checkLongerRow.holds Try.pinned (OpenSpec.ofChange checkLongerSpec)

/-- ITS FALSE NEIGHBOUR: 'it returns false'. Refute it at one input. -/
def checkLongerWrong : ChangeSpec := { name := "checkLonger", fn := fun _ => fun
  | [d1, d2] => { results := [.lit (.bool false)], args := [d1, d2] }
  | _ => none }
def CheckLongerWrongFalsely : Prop := checkLongerRow.holds Try.pinned (OpenSpec.ofChange checkLongerWrong)

/-- 'wicketgatelaw04.CheckReaches': WHATEVER THE INPUT: true; the input reads as it did. -/
def checkReachesSpec : ChangeSpec := { name := "checkReaches", fn := fun _ => fun
  | [d] => { results := [.lit (.bool true)], args := [d] }
  | _ => none }
def checkReachesRow : OpenClaim := { program := "ythhcgcbbdinenaa", sum := "eae9664d5998dc1743ff3e9c0174d5af895fb9eb87de565585d7f56e8c483544", func := "wicketgate/wicketgatelaw04.CheckReaches", spec := "checkReaches", unfollowed := true, recurses := true, apart := false }
def CheckReachesSaid : Prop := checkReachesRow.holds Try.pinned (OpenSpec.ofChange checkReachesSpec)

/-- ITS FALSE NEIGHBOUR: 'it returns false'. Refute it at one input. -/
def checkReachesWrong : ChangeSpec := { name := "checkReaches", fn := fun _ => fun
  | [d] => { results := [.lit (.bool false)], args := [d] }
  | _ => none }
def CheckReachesWrongFalsely : Prop := checkReachesRow.holds Try.pinned (OpenSpec.ofChange checkReachesWrong)

/-- 'wicketgatelaw02.InsnDecodes': WHATEVER THE INPUT: true; the input reads as it did. -/
def insnDecodesSpec : ChangeSpec := { name := "insnDecodes", fn := fun _ => fun
  | [d] => { results := [.lit (.bool true)], args := [d] }
  | _ => none }
def insnDecodesRow : OpenClaim := { program := "ythhcgcbbdinenaa", sum := "eae9664d5998dc1743ff3e9c0174d5af895fb9eb87de565585d7f56e8c483544", func := "wicketgate/wicketgatelaw02.InsnDecodes", spec := "insnDecodes", unfollowed := true, recurses := true, apart := false }
def InsnDecodesSaid : Prop := insnDecodesRow.holds Try.pinned (OpenSpec.ofChange insnDecodesSpec)

/-- ITS FALSE NEIGHBOUR: 'it returns false'. Refute it at one input. -/
def insnDecodesWrong : ChangeSpec := { name := "insnDecodes", fn := fun _ => fun
  | [d] => { results := [.lit (.bool false)], args := [d] }
  | _ => none }
def InsnDecodesWrongFalsely : Prop := insnDecodesRow.holds Try.pinned (OpenSpec.ofChange insnDecodesWrong)

/-- 'wicketgatelaw04.CheckEnds': WHATEVER THE INPUT: true; the input reads as it did. -/
def checkEndsSpec : ChangeSpec := { name := "checkEnds", fn := fun _ => fun
  | [d1, d2] => { results := [.lit (.bool true)], args := [d1, d2] }
  | _ => none }
def checkEndsRow : OpenClaim := { program := "ythhcgcbbdinenaa", sum := "eae9664d5998dc1743ff3e9c0174d5af895fb9eb87de565585d7f56e8c483544", func := "wicketgate/wicketgatelaw04.CheckEnds", spec := "checkEnds", unfollowed := true, recurses := true, apart := false }
def CheckEndsSaid : Prop := checkEndsRow.holds Try.pinned (OpenSpec.ofChange checkEndsSpec)

/-- ITS FALSE NEIGHBOUR: 'it returns false'. Refute it at one input. -/
def checkEndsWrong : ChangeSpec := { name := "checkEnds", fn := fun _ => fun
  | [d1, d2] => { results := [.lit (.bool false)], args := [d1, d2] }
  | _ => none }
def CheckEndsWrongFalsely : Prop := checkEndsRow.holds Try.pinned (OpenSpec.ofChange checkEndsWrong)

/-- 'wicketgatelaw02.InsnBack': WHATEVER THE INPUT: true; the input reads as it did. -/
def insnBackSpec : ChangeSpec := { name := "insnBack", fn := fun _ => fun
  | [d1, d2] => { results := [.lit (.bool true)], args := [d1, d2] }
  | _ => none }
def insnBackRow : OpenClaim := { program := "ythhcgcbbdinenaa", sum := "eae9664d5998dc1743ff3e9c0174d5af895fb9eb87de565585d7f56e8c483544", func := "wicketgate/wicketgatelaw02.InsnBack", spec := "insnBack", unfollowed := true, recurses := true, apart := false }
def InsnBackSaid : Prop := insnBackRow.holds Try.pinned (OpenSpec.ofChange insnBackSpec)

/-- ITS FALSE NEIGHBOUR: 'it returns false'. Refute it at one input. -/
def insnBackWrong : ChangeSpec := { name := "insnBack", fn := fun _ => fun
  | [d1, d2] => { results := [.lit (.bool false)], args := [d1, d2] }
  | _ => none }
def InsnBackWrongFalsely : Prop := insnBackRow.holds Try.pinned (OpenSpec.ofChange insnBackWrong)

/- THE SECOND FORM. 'bulk': how many values and letters a reading holds, each counted each time it is reached (what is shared counts as often as it is met; a slice's spare places count too). A statement '..UptoSaid' is the law's where the arguments, and the package variables that the reading takes, are together of bulk at most 1048576: NARROWER than '..Said'. Prove '..Said' where nothing that the law and all that it calls make is longer than what came in: it says more and counts as full. Else prove '..UptoSaid'. A law counts once. -/
mutual
def uptoBulk {H : Type} : DataW H → Nat
  | .lit (.string bytes) => bytes.length + 1
  | .lit _ => 1
  | .nil => 1
  | .ptr d => uptoBulk d + 1
  | .slice elems spare => uptoBulkAll elems + uptoBulkAll spare + 1
  | .agg parts => uptoBulkAll parts + 1
  | .iface _ d => uptoBulk d + 1
  | .map entries => uptoBulkEntries entries + 1
  | .held _ => 1
def uptoBulkAll {H : Type} : List (DataW H) → Nat
  | [] => 0
  | d :: r => uptoBulk d + uptoBulkAll r
def uptoBulkEntries {H : Type} : List (Lit × DataW H) → Nat
  | [] => 0
  | x :: r => uptoBulkEntry x + uptoBulkEntries r
def uptoBulkEntry {H : Type} : Lit × DataW H → Nat
  | (.string bytes, d) => bytes.length + uptoBulk d + 1
  | (_, d) => uptoBulk d + 1
 end
def uptoSmall : (H : Type) → List (DataW H) → Bool := fun _ ds => decide (uptoBulkAll ds ≤ 1048576)
def OpenSpec.upto (s : _root_.Go.ChangeSpec) : _root_.Go.OpenSpec := { _root_.Go.OpenSpec.ofChange s with cond := some uptoSmall }

/-- 'wicketgatelaw02.InsnCodes', WHERE WHAT IT READS IS OF BULK AT MOST 1048576: true; the input reads as it did. -/
def insnCodesUptoRow : OpenClaim := { program := "ythhcgcbbdinenaa", sum := "eae9664d5998dc1743ff3e9c0174d5af895fb9eb87de565585d7f56e8c483544", func := "wicketgate/wicketgatelaw02.InsnCodes", spec := "insnCodes", unfollowed := true, recurses := true, apart := false, narrowed := true }
def InsnCodesUptoSaid : Prop := insnCodesUptoRow.holds Try.pinned (OpenSpec.upto insnCodesSpec)

/-- 'wicketgatelaw02.InsnNames', WHERE WHAT IT READS IS OF BULK AT MOST 1048576: true; the input reads as it did. -/
def insnNamesUptoRow : OpenClaim := { program := "ythhcgcbbdinenaa", sum := "eae9664d5998dc1743ff3e9c0174d5af895fb9eb87de565585d7f56e8c483544", func := "wicketgate/wicketgatelaw02.InsnNames", spec := "insnNames", unfollowed := true, recurses := true, apart := false, narrowed := true }
def InsnNamesUptoSaid : Prop := insnNamesUptoRow.holds Try.pinned (OpenSpec.upto insnNamesSpec)

/-- 'wicketgatelaw04.CheckChecks', WHERE WHAT IT READS IS OF BULK AT MOST 1048576: true; the input reads as it did. -/
def checkChecksUptoRow : OpenClaim := { program := "ythhcgcbbdinenaa", sum := "eae9664d5998dc1743ff3e9c0174d5af895fb9eb87de565585d7f56e8c483544", func := "wicketgate/wicketgatelaw04.CheckChecks", spec := "checkChecks", unfollowed := true, recurses := true, apart := false, narrowed := true }
def CheckChecksUptoSaid : Prop := checkChecksUptoRow.holds Try.pinned (OpenSpec.upto checkChecksSpec)

/-- 'wicketgatelaw04.CheckFirst', WHERE WHAT IT READS IS OF BULK AT MOST 1048576: true; the input reads as it did. -/
def checkFirstUptoRow : OpenClaim := { program := "ythhcgcbbdinenaa", sum := "eae9664d5998dc1743ff3e9c0174d5af895fb9eb87de565585d7f56e8c483544", func := "wicketgate/wicketgatelaw04.CheckFirst", spec := "checkFirst", unfollowed := true, recurses := true, apart := false, narrowed := true }
def CheckFirstUptoSaid : Prop := checkFirstUptoRow.holds Try.pinned (OpenSpec.upto checkFirstSpec)

/-- 'wicketgatelaw02.InsnEncodes', WHERE WHAT IT READS IS OF BULK AT MOST 1048576: true; the input reads as it did. -/
def insnEncodesUptoRow : OpenClaim := { program := "ythhcgcbbdinenaa", sum := "eae9664d5998dc1743ff3e9c0174d5af895fb9eb87de565585d7f56e8c483544", func := "wicketgate/wicketgatelaw02.InsnEncodes", spec := "insnEncodes", unfollowed := true, recurses := true, apart := false, narrowed := true }
def InsnEncodesUptoSaid : Prop := insnEncodesUptoRow.holds Try.pinned (OpenSpec.upto insnEncodesSpec)

/-- 'wicketgatelaw04.CheckLonger', WHERE WHAT IT READS IS OF BULK AT MOST 1048576: true; the input reads as it did. -/
def checkLongerUptoRow : OpenClaim := { program := "ythhcgcbbdinenaa", sum := "eae9664d5998dc1743ff3e9c0174d5af895fb9eb87de565585d7f56e8c483544", func := "wicketgate/wicketgatelaw04.CheckLonger", spec := "checkLonger", unfollowed := true, recurses := true, apart := false, narrowed := true }
def CheckLongerUptoSaid : Prop := checkLongerUptoRow.holds Try.pinned (OpenSpec.upto checkLongerSpec)

/-- 'wicketgatelaw04.CheckReaches', WHERE WHAT IT READS IS OF BULK AT MOST 1048576: true; the input reads as it did. -/
def checkReachesUptoRow : OpenClaim := { program := "ythhcgcbbdinenaa", sum := "eae9664d5998dc1743ff3e9c0174d5af895fb9eb87de565585d7f56e8c483544", func := "wicketgate/wicketgatelaw04.CheckReaches", spec := "checkReaches", unfollowed := true, recurses := true, apart := false, narrowed := true }
def CheckReachesUptoSaid : Prop := checkReachesUptoRow.holds Try.pinned (OpenSpec.upto checkReachesSpec)

/-- 'wicketgatelaw02.InsnDecodes', WHERE WHAT IT READS IS OF BULK AT MOST 1048576: true; the input reads as it did. -/
def insnDecodesUptoRow : OpenClaim := { program := "ythhcgcbbdinenaa", sum := "eae9664d5998dc1743ff3e9c0174d5af895fb9eb87de565585d7f56e8c483544", func := "wicketgate/wicketgatelaw02.InsnDecodes", spec := "insnDecodes", unfollowed := true, recurses := true, apart := false, narrowed := true }
def InsnDecodesUptoSaid : Prop := insnDecodesUptoRow.holds Try.pinned (OpenSpec.upto insnDecodesSpec)

/-- 'wicketgatelaw04.CheckEnds', WHERE WHAT IT READS IS OF BULK AT MOST 1048576: true; the input reads as it did. -/
def checkEndsUptoRow : OpenClaim := { program := "ythhcgcbbdinenaa", sum := "eae9664d5998dc1743ff3e9c0174d5af895fb9eb87de565585d7f56e8c483544", func := "wicketgate/wicketgatelaw04.CheckEnds", spec := "checkEnds", unfollowed := true, recurses := true, apart := false, narrowed := true }
def CheckEndsUptoSaid : Prop := checkEndsUptoRow.holds Try.pinned (OpenSpec.upto checkEndsSpec)

/-- 'wicketgatelaw02.InsnBack', WHERE WHAT IT READS IS OF BULK AT MOST 1048576: true; the input reads as it did. -/
def insnBackUptoRow : OpenClaim := { program := "ythhcgcbbdinenaa", sum := "eae9664d5998dc1743ff3e9c0174d5af895fb9eb87de565585d7f56e8c483544", func := "wicketgate/wicketgatelaw02.InsnBack", spec := "insnBack", unfollowed := true, recurses := true, apart := false, narrowed := true }
def InsnBackUptoSaid : Prop := insnBackUptoRow.holds Try.pinned (OpenSpec.upto insnBackSpec)

end Rows
end Go.Proofs.Ythhcgcbbdinenaa
