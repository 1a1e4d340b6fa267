/- The closed facts of the row JudgeChecks, one at a time (a). -/
import Derived.Test.YtgpaipedklilkaaGreatWj
import Derived.Test.YtgpaipedklilkaaGreatRows
set_option linter.unusedVariables false
namespace Go.Proofs.YtgpaipedklilkaaGreat.judgeChecks
open Go Go.Av
set_option maxRecDepth 100000
theorem j1 : Rows.judgeChecksRow.wf (OpenSpec.ofChange Rows.judgeChecksSpec) = true := by kernel_rfl
theorem j2 : laidOutB Tryz.prog = true := by kernel_rfl
theorem j3 : mapsRowed Tryz.prog = true := by kernel_rfl
theorem j4 : Tryz.f10.params.all (Tryz.prog.readableRec ·) = true := by kernel_rfl
theorem j5 : namedTie Tryz.prog Rows.judgeChecksRow.named Rows.judgeChecksSpec.vars = true := by kernel_rfl
theorem j6 : (Rows.judgeChecksRow.stops == []) = true := by kernel_rfl
theorem j7 : (Tryz.prog.stops == []) = true := by kernel_rfl
theorem j8 : (Rows.judgeChecksRow.knobs == []) = true := by kernel_rfl
theorem j9 : (Tryz.prog.stopKnobs == []) = true := by kernel_rfl
theorem j10 : (Rows.judgeChecksRow.inPlace == Tryz.prog.inPlace 10) = true := by kernel_rfl
theorem j11 : (Rows.judgeChecksRow.unfollowed == Tryz.prog.unfollowed 10) = true := by kernel_rfl
end Go.Proofs.YtgpaipedklilkaaGreat.judgeChecks
