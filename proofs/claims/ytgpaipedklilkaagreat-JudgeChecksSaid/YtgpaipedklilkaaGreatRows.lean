/-
  No cell of these rows narrows 'for every input' (looked for: loops, veiled, ifaces, maps, wideKeys, modest, calm, conditions, laid).
  DERIVED. THE GIVEN ROWS OF THIS SEAT. 10 by the template 'for every input the law returns true; each argument reads behind the call as it read before'; 0 by the template 'total and deterministic' (their statements: YtgpaipedklilkaaGreatTotals.lean).
  GIVEN WITH THE SEED: the statements are not yours to turn. If you find one false, say at which input.
  Laid BY PROGRAM, IN A SANDBOX (cutbox-rows.mjs): the forced cells as the released guide's own fill.sh prints them over the translation afc766a6632f250f… (all of the seat's roots in one cut). By AI agents, Wed Nov 11 2026. No macro, syntax, notation, axiom, sorry.
-/
import Derived.Test.YtgpaipedklilkaaGreatChecked
import GoSem.Claim
import GoSem.ClaimJoined
import GoSem.ClaimMapViews
import Derived.JoinedTies
import Derived.KernelRfl
namespace Go.Proofs.YtgpaipedklilkaaGreat
/- THE CELL 'sum', in the pinned program and in every row, IS THE sha256 OF THE DUMP (.gsa) THAT YtgpaipedklilkaaGreatProg.lean LOADS. Nothing in Lean hashes anything: it is a label: what it is worth is what the hold of that sum in a sandbox is worth. -/
noncomputable def Tryz.pinned : Pinned := { name := "ytgpaipedklilkaagreat", sum := "afc766a6632f250f280b65b1f196885c123cde7fb45091e0030a1fb519bc14e2", checked := Tryz.checked }
namespace Rows
def none {H : Type} : Left H := { results := [], args := [] }

/-- 'wicketgatelaw16.JudgeServes': WHATEVER THE INPUT: true; the input reads as it did. -/
def judgeServesSpec : ChangeSpec := { name := "judgeServes", fn := fun _ => fun
  | [d] => { results := [.lit (.bool true)], args := [d] }
  | _ => none }
def judgeServesRow : OpenClaim := { program := "ytgpaipedklilkaagreat", sum := "afc766a6632f250f280b65b1f196885c123cde7fb45091e0030a1fb519bc14e2", func := "wicketgate/wicketgatelaw16.JudgeServes", spec := "judgeServes", inPlace := ["slices.overlaps[wicketgate/api.Confined]", "slices.overlaps[int]", "slices.overlaps[wicketgate/api.Proc]"], unfollowed := true, recurses := true, apart := false }
def JudgeServesSaid : Prop := judgeServesRow.holds Tryz.pinned (OpenSpec.ofChange judgeServesSpec)

/-- ITS FALSE NEIGHBOUR: 'it returns false'. Refute it at one input. -/
def judgeServesWrong : ChangeSpec := { name := "judgeServes", fn := fun _ => fun
  | [d] => { results := [.lit (.bool false)], args := [d] }
  | _ => none }
def JudgeServesWrongFalsely : Prop := judgeServesRow.holds Tryz.pinned (OpenSpec.ofChange judgeServesWrong)

/-- 'wicketgatelaw16.JudgeLaps': WHATEVER THE INPUT: true; the input reads as it did. -/
def judgeLapsSpec : ChangeSpec := { name := "judgeLaps", fn := fun _ => fun
  | [d1, d2, d3] => { results := [.lit (.bool true)], args := [d1, d2, d3] }
  | _ => none }
def judgeLapsRow : OpenClaim := { program := "ytgpaipedklilkaagreat", sum := "afc766a6632f250f280b65b1f196885c123cde7fb45091e0030a1fb519bc14e2", func := "wicketgate/wicketgatelaw16.JudgeLaps", spec := "judgeLaps", inPlace := ["slices.overlaps[wicketgate/api.Confined]", "slices.overlaps[int]", "slices.overlaps[wicketgate/api.Proc]"], unfollowed := true, recurses := true, apart := false }
def JudgeLapsSaid : Prop := judgeLapsRow.holds Tryz.pinned (OpenSpec.ofChange judgeLapsSpec)

/-- ITS FALSE NEIGHBOUR: 'it returns false'. Refute it at one input. -/
def judgeLapsWrong : ChangeSpec := { name := "judgeLaps", fn := fun _ => fun
  | [d1, d2, d3] => { results := [.lit (.bool false)], args := [d1, d2, d3] }
  | _ => none }
def JudgeLapsWrongFalsely : Prop := judgeLapsRow.holds Tryz.pinned (OpenSpec.ofChange judgeLapsWrong)

/-- 'wicketgatelaw14.ModelDoes': WHATEVER THE INPUT: true; the input reads as it did. -/
def modelDoesSpec : ChangeSpec := { name := "modelDoes", fn := fun _ => fun
  | [d1, d2] => { results := [.lit (.bool true)], args := [d1, d2] }
  | _ => none }
def modelDoesRow : OpenClaim := { program := "ytgpaipedklilkaagreat", sum := "afc766a6632f250f280b65b1f196885c123cde7fb45091e0030a1fb519bc14e2", func := "wicketgate/wicketgatelaw14.ModelDoes", spec := "modelDoes", inPlace := ["slices.overlaps[wicketgate/api.Confined]", "slices.overlaps[int]", "slices.overlaps[wicketgate/api.Proc]"], unfollowed := true, recurses := true, apart := false }
def ModelDoesSaid : Prop := modelDoesRow.holds Tryz.pinned (OpenSpec.ofChange modelDoesSpec)

/-- ITS FALSE NEIGHBOUR: 'it returns false'. Refute it at one input. -/
def modelDoesWrong : ChangeSpec := { name := "modelDoes", fn := fun _ => fun
  | [d1, d2] => { results := [.lit (.bool false)], args := [d1, d2] }
  | _ => none }
def ModelDoesWrongFalsely : Prop := modelDoesRow.holds Tryz.pinned (OpenSpec.ofChange modelDoesWrong)

/-- 'wicketgatelaw14.ModelVerdicts': WHATEVER THE INPUT: true; the input reads as it did. -/
def modelVerdictsSpec : ChangeSpec := { name := "modelVerdicts", fn := fun _ => fun
  | [d1, d2] => { results := [.lit (.bool true)], args := [d1, d2] }
  | _ => none }
def modelVerdictsRow : OpenClaim := { program := "ytgpaipedklilkaagreat", sum := "afc766a6632f250f280b65b1f196885c123cde7fb45091e0030a1fb519bc14e2", func := "wicketgate/wicketgatelaw14.ModelVerdicts", spec := "modelVerdicts", inPlace := ["slices.overlaps[wicketgate/api.Confined]", "slices.overlaps[int]", "slices.overlaps[wicketgate/api.Proc]"], unfollowed := true, recurses := true, apart := false }
def ModelVerdictsSaid : Prop := modelVerdictsRow.holds Tryz.pinned (OpenSpec.ofChange modelVerdictsSpec)

/-- ITS FALSE NEIGHBOUR: 'it returns false'. Refute it at one input. -/
def modelVerdictsWrong : ChangeSpec := { name := "modelVerdicts", fn := fun _ => fun
  | [d1, d2] => { results := [.lit (.bool false)], args := [d1, d2] }
  | _ => none }
def ModelVerdictsWrongFalsely : Prop := modelVerdictsRow.holds Tryz.pinned (OpenSpec.ofChange modelVerdictsWrong)

/-- 'wicketgatelaw14.ModelLists': WHATEVER THE INPUT: true; the input reads as it did. -/
def modelListsSpec : ChangeSpec := { name := "modelLists", fn := fun _ => fun
  | [d1, d2] => { results := [.lit (.bool true)], args := [d1, d2] }
  | _ => none }
def modelListsRow : OpenClaim := { program := "ytgpaipedklilkaagreat", sum := "afc766a6632f250f280b65b1f196885c123cde7fb45091e0030a1fb519bc14e2", func := "wicketgate/wicketgatelaw14.ModelLists", spec := "modelLists", inPlace := ["slices.overlaps[wicketgate/api.Confined]", "slices.overlaps[int]", "slices.overlaps[wicketgate/api.Proc]"], unfollowed := true, recurses := true, apart := false }
def ModelListsSaid : Prop := modelListsRow.holds Tryz.pinned (OpenSpec.ofChange modelListsSpec)

/-- ITS FALSE NEIGHBOUR: 'it returns false'. Refute it at one input. -/
def modelListsWrong : ChangeSpec := { name := "modelLists", fn := fun _ => fun
  | [d1, d2] => { results := [.lit (.bool false)], args := [d1, d2] }
  | _ => none }
def ModelListsWrongFalsely : Prop := modelListsRow.holds Tryz.pinned (OpenSpec.ofChange modelListsWrong)

/-- 'wicketgatelaw14.ModelDeaths': WHATEVER THE INPUT: true; the input reads as it did. -/
def modelDeathsSpec : ChangeSpec := { name := "modelDeaths", fn := fun _ => fun
  | [d] => { results := [.lit (.bool true)], args := [d] }
  | _ => none }
def modelDeathsRow : OpenClaim := { program := "ytgpaipedklilkaagreat", sum := "afc766a6632f250f280b65b1f196885c123cde7fb45091e0030a1fb519bc14e2", func := "wicketgate/wicketgatelaw14.ModelDeaths", spec := "modelDeaths", inPlace := ["slices.overlaps[wicketgate/api.Confined]", "slices.overlaps[int]", "slices.overlaps[wicketgate/api.Proc]"], unfollowed := true, recurses := true, apart := false }
def ModelDeathsSaid : Prop := modelDeathsRow.holds Tryz.pinned (OpenSpec.ofChange modelDeathsSpec)

/-- ITS FALSE NEIGHBOUR: 'it returns false'. Refute it at one input. -/
def modelDeathsWrong : ChangeSpec := { name := "modelDeaths", fn := fun _ => fun
  | [d] => { results := [.lit (.bool false)], args := [d] }
  | _ => none }
def ModelDeathsWrongFalsely : Prop := modelDeathsRow.holds Tryz.pinned (OpenSpec.ofChange modelDeathsWrong)

/-- 'wicketgatelaw14.ModelSyncs': WHATEVER THE INPUT: true; the input reads as it did. -/
def modelSyncsSpec : ChangeSpec := { name := "modelSyncs", fn := fun _ => fun
  | [d1, d2, d3] => { results := [.lit (.bool true)], args := [d1, d2, d3] }
  | _ => none }
def modelSyncsRow : OpenClaim := { program := "ytgpaipedklilkaagreat", sum := "afc766a6632f250f280b65b1f196885c123cde7fb45091e0030a1fb519bc14e2", func := "wicketgate/wicketgatelaw14.ModelSyncs", spec := "modelSyncs", inPlace := ["slices.overlaps[wicketgate/api.Confined]", "slices.overlaps[int]", "slices.overlaps[wicketgate/api.Proc]"], unfollowed := true, recurses := true, apart := false }
def ModelSyncsSaid : Prop := modelSyncsRow.holds Tryz.pinned (OpenSpec.ofChange modelSyncsSpec)

/-- ITS FALSE NEIGHBOUR: 'it returns false'. Refute it at one input. -/
def modelSyncsWrong : ChangeSpec := { name := "modelSyncs", fn := fun _ => fun
  | [d1, d2, d3] => { results := [.lit (.bool false)], args := [d1, d2, d3] }
  | _ => none }
def ModelSyncsWrongFalsely : Prop := modelSyncsRow.holds Tryz.pinned (OpenSpec.ofChange modelSyncsWrong)

/-- 'wicketgatelaw16.JudgeChecks': WHATEVER THE INPUT: true; the input reads as it did. -/
def judgeChecksSpec : ChangeSpec := { name := "judgeChecks", fn := fun _ => fun
  | [d] => { results := [.lit (.bool true)], args := [d] }
  | _ => none }
def judgeChecksRow : OpenClaim := { program := "ytgpaipedklilkaagreat", sum := "afc766a6632f250f280b65b1f196885c123cde7fb45091e0030a1fb519bc14e2", func := "wicketgate/wicketgatelaw16.JudgeChecks", spec := "judgeChecks", inPlace := ["slices.overlaps[wicketgate/api.Confined]", "slices.overlaps[int]", "slices.overlaps[wicketgate/api.Proc]"], unfollowed := true, recurses := true, apart := false }
def JudgeChecksSaid : Prop := judgeChecksRow.holds Tryz.pinned (OpenSpec.ofChange judgeChecksSpec)

/-- ITS FALSE NEIGHBOUR: 'it returns false'. Refute it at one input. -/
def judgeChecksWrong : ChangeSpec := { name := "judgeChecks", fn := fun _ => fun
  | [d] => { results := [.lit (.bool false)], args := [d] }
  | _ => none }
def JudgeChecksWrongFalsely : Prop := judgeChecksRow.holds Tryz.pinned (OpenSpec.ofChange judgeChecksWrong)

/-- 'wicketgatelaw16.JudgeJudges': WHATEVER THE INPUT: true; the input reads as it did. -/
def judgeJudgesSpec : ChangeSpec := { name := "judgeJudges", fn := fun _ => fun
  | [d1, d2, d3] => { results := [.lit (.bool true)], args := [d1, d2, d3] }
  | _ => none }
def judgeJudgesRow : OpenClaim := { program := "ytgpaipedklilkaagreat", sum := "afc766a6632f250f280b65b1f196885c123cde7fb45091e0030a1fb519bc14e2", func := "wicketgate/wicketgatelaw16.JudgeJudges", spec := "judgeJudges", inPlace := ["slices.overlaps[wicketgate/api.Confined]", "slices.overlaps[int]", "slices.overlaps[wicketgate/api.Proc]"], unfollowed := true, recurses := true, apart := false }
def JudgeJudgesSaid : Prop := judgeJudgesRow.holds Tryz.pinned (OpenSpec.ofChange judgeJudgesSpec)

/-- ITS FALSE NEIGHBOUR: 'it returns false'. Refute it at one input. -/
def judgeJudgesWrong : ChangeSpec := { name := "judgeJudges", fn := fun _ => fun
  | [d1, d2, d3] => { results := [.lit (.bool false)], args := [d1, d2, d3] }
  | _ => none }
def JudgeJudgesWrongFalsely : Prop := judgeJudgesRow.holds Tryz.pinned (OpenSpec.ofChange judgeJudgesWrong)

/-- 'wicketgatelaw16.JudgeFinds': WHATEVER THE INPUT: true; the input reads as it did. -/
def judgeFindsSpec : ChangeSpec := { name := "judgeFinds", fn := fun _ => fun
  | [d1, d2] => { results := [.lit (.bool true)], args := [d1, d2] }
  | _ => none }
def judgeFindsRow : OpenClaim := { program := "ytgpaipedklilkaagreat", sum := "afc766a6632f250f280b65b1f196885c123cde7fb45091e0030a1fb519bc14e2", func := "wicketgate/wicketgatelaw16.JudgeFinds", spec := "judgeFinds", inPlace := ["slices.overlaps[wicketgate/api.Confined]", "slices.overlaps[int]", "slices.overlaps[wicketgate/api.Proc]"], unfollowed := true, recurses := true, apart := false }
def JudgeFindsSaid : Prop := judgeFindsRow.holds Tryz.pinned (OpenSpec.ofChange judgeFindsSpec)

/-- ITS FALSE NEIGHBOUR: 'it returns false'. Refute it at one input. -/
def judgeFindsWrong : ChangeSpec := { name := "judgeFinds", fn := fun _ => fun
  | [d1, d2] => { results := [.lit (.bool false)], args := [d1, d2] }
  | _ => none }
def JudgeFindsWrongFalsely : Prop := judgeFindsRow.holds Tryz.pinned (OpenSpec.ofChange judgeFindsWrong)

/- THE SECOND FORM. 'bulk': how many values and letters a reading holds, each counted each time it is reached (what is shared counts as often as it is met; a slice's spare places count too). A statement '..UptoSaid' is the law's where the arguments, and the package variables that the reading takes, are together of bulk at most 1048576: NARROWER than '..Said'. Prove '..Said' where nothing that the law and all that it calls make is longer than what came in: it says more and counts as full. Else prove '..UptoSaid'. A law counts once. -/
mutual
def uptoBulk {H : Type} : DataW H → Nat
  | .lit (.string bytes) => bytes.length + 1
  | .lit _ => 1
  | .nil => 1
  | .ptr d => uptoBulk d + 1
  | .slice elems spare => uptoBulkAll elems + uptoBulkAll spare + 1
  | .agg parts => uptoBulkAll parts + 1
  | .iface _ d => uptoBulk d + 1
  | .map entries => uptoBulkEntries entries + 1
  | .held _ => 1
def uptoBulkAll {H : Type} : List (DataW H) → Nat
  | [] => 0
  | d :: r => uptoBulk d + uptoBulkAll r
def uptoBulkEntries {H : Type} : List (Lit × DataW H) → Nat
  | [] => 0
  | x :: r => uptoBulkEntry x + uptoBulkEntries r
def uptoBulkEntry {H : Type} : Lit × DataW H → Nat
  | (.string bytes, d) => bytes.length + uptoBulk d + 1
  | (_, d) => uptoBulk d + 1
 end
def uptoSmall : (H : Type) → List (DataW H) → Bool := fun _ ds => decide (uptoBulkAll ds ≤ 1048576)
def OpenSpec.upto (s : _root_.Go.ChangeSpec) : _root_.Go.OpenSpec := { _root_.Go.OpenSpec.ofChange s with cond := some uptoSmall }

/-- 'wicketgatelaw16.JudgeServes', WHERE WHAT IT READS IS OF BULK AT MOST 1048576: true; the input reads as it did. -/
def judgeServesUptoRow : OpenClaim := { program := "ytgpaipedklilkaagreat", sum := "afc766a6632f250f280b65b1f196885c123cde7fb45091e0030a1fb519bc14e2", func := "wicketgate/wicketgatelaw16.JudgeServes", spec := "judgeServes", inPlace := ["slices.overlaps[wicketgate/api.Confined]", "slices.overlaps[int]", "slices.overlaps[wicketgate/api.Proc]"], unfollowed := true, recurses := true, apart := false, narrowed := true }
def JudgeServesUptoSaid : Prop := judgeServesUptoRow.holds Tryz.pinned (OpenSpec.upto judgeServesSpec)

/-- 'wicketgatelaw16.JudgeLaps', WHERE WHAT IT READS IS OF BULK AT MOST 1048576: true; the input reads as it did. -/
def judgeLapsUptoRow : OpenClaim := { program := "ytgpaipedklilkaagreat", sum := "afc766a6632f250f280b65b1f196885c123cde7fb45091e0030a1fb519bc14e2", func := "wicketgate/wicketgatelaw16.JudgeLaps", spec := "judgeLaps", inPlace := ["slices.overlaps[wicketgate/api.Confined]", "slices.overlaps[int]", "slices.overlaps[wicketgate/api.Proc]"], unfollowed := true, recurses := true, apart := false, narrowed := true }
def JudgeLapsUptoSaid : Prop := judgeLapsUptoRow.holds Tryz.pinned (OpenSpec.upto judgeLapsSpec)

/-- 'wicketgatelaw14.ModelDoes', WHERE WHAT IT READS IS OF BULK AT MOST 1048576: true; the input reads as it did. -/
def modelDoesUptoRow : OpenClaim := { program := "ytgpaipedklilkaagreat", sum := "afc766a6632f250f280b65b1f196885c123cde7fb45091e0030a1fb519bc14e2", func := "wicketgate/wicketgatelaw14.ModelDoes", spec := "modelDoes", inPlace := ["slices.overlaps[wicketgate/api.Confined]", "slices.overlaps[int]", "slices.overlaps[wicketgate/api.Proc]"], unfollowed := true, recurses := true, apart := false, narrowed := true }
def ModelDoesUptoSaid : Prop := modelDoesUptoRow.holds Tryz.pinned (OpenSpec.upto modelDoesSpec)

/-- 'wicketgatelaw14.ModelVerdicts', WHERE WHAT IT READS IS OF BULK AT MOST 1048576: true; the input reads as it did. -/
def modelVerdictsUptoRow : OpenClaim := { program := "ytgpaipedklilkaagreat", sum := "afc766a6632f250f280b65b1f196885c123cde7fb45091e0030a1fb519bc14e2", func := "wicketgate/wicketgatelaw14.ModelVerdicts", spec := "modelVerdicts", inPlace := ["slices.overlaps[wicketgate/api.Confined]", "slices.overlaps[int]", "slices.overlaps[wicketgate/api.Proc]"], unfollowed := true, recurses := true, apart := false, narrowed := true }
def ModelVerdictsUptoSaid : Prop := modelVerdictsUptoRow.holds Tryz.pinned (OpenSpec.upto modelVerdictsSpec)

/-- 'wicketgatelaw14.ModelLists', WHERE WHAT IT READS IS OF BULK AT MOST 1048576: true; the input reads as it did. -/
def modelListsUptoRow : OpenClaim := { program := "ytgpaipedklilkaagreat", sum := "afc766a6632f250f280b65b1f196885c123cde7fb45091e0030a1fb519bc14e2", func := "wicketgate/wicketgatelaw14.ModelLists", spec := "modelLists", inPlace := ["slices.overlaps[wicketgate/api.Confined]", "slices.overlaps[int]", "slices.overlaps[wicketgate/api.Proc]"], unfollowed := true, recurses := true, apart := false, narrowed := true }
def ModelListsUptoSaid : Prop := modelListsUptoRow.holds Tryz.pinned (OpenSpec.upto modelListsSpec)

/-- 'wicketgatelaw14.ModelDeaths', WHERE WHAT IT READS IS OF BULK AT MOST 1048576: true; the input reads as it did. -/
def modelDeathsUptoRow : OpenClaim := { program := "ytgpaipedklilkaagreat", sum := "afc766a6632f250f280b65b1f196885c123cde7fb45091e0030a1fb519bc14e2", func := "wicketgate/wicketgatelaw14.ModelDeaths", spec := "modelDeaths", inPlace := ["slices.overlaps[wicketgate/api.Confined]", "slices.overlaps[int]", "slices.overlaps[wicketgate/api.Proc]"], unfollowed := true, recurses := true, apart := false, narrowed := true }
def ModelDeathsUptoSaid : Prop := modelDeathsUptoRow.holds Tryz.pinned (OpenSpec.upto modelDeathsSpec)

/-- 'wicketgatelaw14.ModelSyncs', WHERE WHAT IT READS IS OF BULK AT MOST 1048576: true; the input reads as it did. -/
def modelSyncsUptoRow : OpenClaim := { program := "ytgpaipedklilkaagreat", sum := "afc766a6632f250f280b65b1f196885c123cde7fb45091e0030a1fb519bc14e2", func := "wicketgate/wicketgatelaw14.ModelSyncs", spec := "modelSyncs", inPlace := ["slices.overlaps[wicketgate/api.Confined]", "slices.overlaps[int]", "slices.overlaps[wicketgate/api.Proc]"], unfollowed := true, recurses := true, apart := false, narrowed := true }
def ModelSyncsUptoSaid : Prop := modelSyncsUptoRow.holds Tryz.pinned (OpenSpec.upto modelSyncsSpec)

/-- 'wicketgatelaw16.JudgeChecks', WHERE WHAT IT READS IS OF BULK AT MOST 1048576: true; the input reads as it did. -/
def judgeChecksUptoRow : OpenClaim := { program := "ytgpaipedklilkaagreat", sum := "afc766a6632f250f280b65b1f196885c123cde7fb45091e0030a1fb519bc14e2", func := "wicketgate/wicketgatelaw16.JudgeChecks", spec := "judgeChecks", inPlace := ["slices.overlaps[wicketgate/api.Confined]", "slices.overlaps[int]", "slices.overlaps[wicketgate/api.Proc]"], unfollowed := true, recurses := true, apart := false, narrowed := true }
def JudgeChecksUptoSaid : Prop := judgeChecksUptoRow.holds Tryz.pinned (OpenSpec.upto judgeChecksSpec)

/-- 'wicketgatelaw16.JudgeJudges', WHERE WHAT IT READS IS OF BULK AT MOST 1048576: true; the input reads as it did. -/
def judgeJudgesUptoRow : OpenClaim := { program := "ytgpaipedklilkaagreat", sum := "afc766a6632f250f280b65b1f196885c123cde7fb45091e0030a1fb519bc14e2", func := "wicketgate/wicketgatelaw16.JudgeJudges", spec := "judgeJudges", inPlace := ["slices.overlaps[wicketgate/api.Confined]", "slices.overlaps[int]", "slices.overlaps[wicketgate/api.Proc]"], unfollowed := true, recurses := true, apart := false, narrowed := true }
def JudgeJudgesUptoSaid : Prop := judgeJudgesUptoRow.holds Tryz.pinned (OpenSpec.upto judgeJudgesSpec)

/-- 'wicketgatelaw16.JudgeFinds', WHERE WHAT IT READS IS OF BULK AT MOST 1048576: true; the input reads as it did. -/
def judgeFindsUptoRow : OpenClaim := { program := "ytgpaipedklilkaagreat", sum := "afc766a6632f250f280b65b1f196885c123cde7fb45091e0030a1fb519bc14e2", func := "wicketgate/wicketgatelaw16.JudgeFinds", spec := "judgeFinds", inPlace := ["slices.overlaps[wicketgate/api.Confined]", "slices.overlaps[int]", "slices.overlaps[wicketgate/api.Proc]"], unfollowed := true, recurses := true, apart := false, narrowed := true }
def JudgeFindsUptoSaid : Prop := judgeFindsUptoRow.holds Tryz.pinned (OpenSpec.upto judgeFindsSpec)

end Rows
end Go.Proofs.YtgpaipedklilkaaGreat
