/- The closed facts of the row ModelLists, one at a time (a). -/
import Derived.Test.YtgpaipedklilkaaGreatWj
import Derived.Test.YtgpaipedklilkaaGreatRows
set_option linter.unusedVariables false
namespace Go.Proofs.YtgpaipedklilkaaGreat.modelLists
open Go Go.Av
set_option maxRecDepth 100000
theorem j1 : Rows.modelListsRow.wf (OpenSpec.ofChange Rows.modelListsSpec) = true := by kernel_rfl
theorem j2 : laidOutB Tryz.prog = true := by kernel_rfl
theorem j3 : mapsRowed Tryz.prog = true := by kernel_rfl
theorem j4 : Tryz.f7.params.all (Tryz.prog.readableRec ·) = true := by kernel_rfl
theorem j5 : namedTie Tryz.prog Rows.modelListsRow.named Rows.modelListsSpec.vars = true := by kernel_rfl
theorem j6 : (Rows.modelListsRow.stops == []) = true := by kernel_rfl
theorem j7 : (Tryz.prog.stops == []) = true := by kernel_rfl
theorem j8 : (Rows.modelListsRow.knobs == []) = true := by kernel_rfl
theorem j9 : (Tryz.prog.stopKnobs == []) = true := by kernel_rfl
theorem j10 : (Rows.modelListsRow.inPlace == Tryz.prog.inPlace 7) = true := by kernel_rfl
theorem j11 : (Rows.modelListsRow.unfollowed == Tryz.prog.unfollowed 7) = true := by kernel_rfl
end Go.Proofs.YtgpaipedklilkaaGreat.modelLists
