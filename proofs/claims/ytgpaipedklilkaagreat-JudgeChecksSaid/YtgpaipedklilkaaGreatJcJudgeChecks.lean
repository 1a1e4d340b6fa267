/- The closed facts of the row JudgeChecks, one at a time (c). -/
import Derived.Test.YtgpaipedklilkaaGreatJaJudgeChecks
import Derived.Test.YtgpaipedklilkaaGreatJbJudgeChecks
set_option linter.unusedVariables false
namespace Go.Proofs.YtgpaipedklilkaaGreat.judgeChecks
open Go Go.Av
set_option maxRecDepth 100000
theorem j21 : (Rows.judgeChecksRow.ifacesOut == Tryz.f10.resultTypes.toList.any (Tryz.prog.ifacesRec ·)) = true := by kernel_rfl
theorem j22 : (Rows.judgeChecksRow.loopsOut == Tryz.f10.resultTypes.toList.any (Tryz.prog.loopsFrom ·)) = true := by kernel_rfl
theorem j23 : (Rows.judgeChecksRow.plainKeys == Tryz.prog.plainKeys) = true := by kernel_rfl
theorem j24 : Rows.judgeChecksRow.shortTexts.isNone = true := by kernel_rfl
theorem j25 : Tryz.prog.stopsHeard = true := by kernel_rfl
theorem j26 : Tryz.prog.mayEnter = true := by kernel_rfl
theorem j27 : (Rows.judgeChecksRow.lifted == Tryz.prog.liftsFinal) = true := by kernel_rfl
theorem j28 : (Tryz.prog.make == some Rows.judgeChecksRow.make) = true := by kernel_rfl
theorem j29 : (Rows.judgeChecksRow.kinds == (if Rows.judgeChecksRow.domain.isEmpty then [] else Tryz.f10.params.toList.map fun t => match Tryz.prog.underlying t with | some (.int k) => some k | _ => none)) = true := by kernel_rfl
theorem j30 : (Rows.judgeChecksRow.pinned == Rows.judgeChecksRow.pinnedBy) = true := by kernel_rfl
theorem j31 : (Rows.judgeChecksRow.veiled == (Tryz.f10.params.toList ++ Rows.judgeChecksSpec.plain.varTypes Tryz.prog ++ Tryz.f10.resultTypes.toList).any (Tryz.prog.veiledRec ·)) = true := by kernel_rfl
theorem j32 : Rows.judgeChecksRow.veiledFits Tryz.prog Tryz.f10.params.toList (Tryz.f10.params.toList ++ Rows.judgeChecksSpec.plain.varTypes Tryz.prog ++ Tryz.f10.resultTypes.toList) = true := by kernel_rfl
theorem joined : joinedFacts Tryz.prog 10 Tryz.f10 Rows.judgeChecksSpec Rows.judgeChecksRow = true := joined_by j1 j2 j3 j4 j5 j6 j7 j8 j9 j10 j11 j12 j13 j14 j15 j16 j17 j18 j19 j20 j21 j22 j23 j24 j25 j26 j27 j28 j29 j30 j31 j32
end Go.Proofs.YtgpaipedklilkaaGreat.judgeChecks
