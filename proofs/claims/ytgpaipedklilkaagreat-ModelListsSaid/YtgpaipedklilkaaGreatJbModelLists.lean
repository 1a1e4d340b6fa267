/- The closed facts of the row ModelLists, one at a time (b). -/
import Derived.Test.YtgpaipedklilkaaGreatWj
import Derived.Test.YtgpaipedklilkaaGreatRows
set_option linter.unusedVariables false
namespace Go.Proofs.YtgpaipedklilkaaGreat.modelLists
open Go Go.Av
set_option maxRecDepth 100000
theorem j12 : (Rows.modelListsRow.recurses == Tryz.prog.recurses 7) = true := by kernel_rfl
theorem j13 : (Rows.modelListsRow.named == Tryz.prog.varsNamed 7) = true := by kernel_rfl
theorem j14 : (Rows.modelListsRow.maps == (Tryz.f7.params.toList ++ Rows.modelListsSpec.plain.varTypes Tryz.prog).any (Tryz.prog.mapsRec ·)) = true := by kernel_rfl
theorem j15 : (Rows.modelListsRow.ifaces == (Tryz.f7.params.toList ++ Rows.modelListsSpec.plain.varTypes Tryz.prog).any (Tryz.prog.ifacesRec ·)) = true := by kernel_rfl
theorem j16 : (Rows.modelListsRow.mapsOut == Tryz.prog.mapsAmong Tryz.f7.resultTypes.toList) = true := by kernel_rfl
theorem j17 : (Rows.modelListsRow.loops == (Tryz.f7.params.toList ++ Rows.modelListsSpec.plain.varTypes Tryz.prog).any (Tryz.prog.loopsFrom ·)) = true := by kernel_rfl
theorem j18 : (Rows.modelListsRow.wideKeys == (Tryz.f7.params.toList ++ Rows.modelListsSpec.plain.varTypes Tryz.prog ++ Tryz.f7.resultTypes.toList).any (Tryz.prog.wideKeysFrom ·)) = true := by kernel_rfl
theorem j19 : Rows.modelListsSpec.vars.all (Tryz.prog.varReadable ·) = true := by kernel_rfl
theorem j20 : Tryz.f7.resultTypes.all (fun t => Tryz.prog.readableRec t && decide (t < Tryz.prog.types.size)) = true := by kernel_rfl
end Go.Proofs.YtgpaipedklilkaaGreat.modelLists
