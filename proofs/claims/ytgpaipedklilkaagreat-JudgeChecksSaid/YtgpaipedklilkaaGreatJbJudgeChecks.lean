/- The closed facts of the row JudgeChecks, one at a time (b). -/
import Derived.Test.YtgpaipedklilkaaGreatWj
import Derived.Test.YtgpaipedklilkaaGreatRows
set_option linter.unusedVariables false
namespace Go.Proofs.YtgpaipedklilkaaGreat.judgeChecks
open Go Go.Av
set_option maxRecDepth 100000
theorem j12 : (Rows.judgeChecksRow.recurses == Tryz.prog.recurses 10) = true := by kernel_rfl
theorem j13 : (Rows.judgeChecksRow.named == Tryz.prog.varsNamed 10) = true := by kernel_rfl
theorem j14 : (Rows.judgeChecksRow.maps == (Tryz.f10.params.toList ++ Rows.judgeChecksSpec.plain.varTypes Tryz.prog).any (Tryz.prog.mapsRec ·)) = true := by kernel_rfl
theorem j15 : (Rows.judgeChecksRow.ifaces == (Tryz.f10.params.toList ++ Rows.judgeChecksSpec.plain.varTypes Tryz.prog).any (Tryz.prog.ifacesRec ·)) = true := by kernel_rfl
theorem j16 : (Rows.judgeChecksRow.mapsOut == Tryz.prog.mapsAmong Tryz.f10.resultTypes.toList) = true := by kernel_rfl
theorem j17 : (Rows.judgeChecksRow.loops == (Tryz.f10.params.toList ++ Rows.judgeChecksSpec.plain.varTypes Tryz.prog).any (Tryz.prog.loopsFrom ·)) = true := by kernel_rfl
theorem j18 : (Rows.judgeChecksRow.wideKeys == (Tryz.f10.params.toList ++ Rows.judgeChecksSpec.plain.varTypes Tryz.prog ++ Tryz.f10.resultTypes.toList).any (Tryz.prog.wideKeysFrom ·)) = true := by kernel_rfl
theorem j19 : Rows.judgeChecksSpec.vars.all (Tryz.prog.varReadable ·) = true := by kernel_rfl
theorem j20 : Tryz.f10.resultTypes.all (fun t => Tryz.prog.readableRec t && decide (t < Tryz.prog.types.size)) = true := by kernel_rfl
end Go.Proofs.YtgpaipedklilkaaGreat.judgeChecks
