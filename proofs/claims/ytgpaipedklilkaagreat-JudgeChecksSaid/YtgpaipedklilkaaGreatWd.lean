/- judge.Find at the history that wakes of law 16 asks. -/
import Derived.Test.YtgpaipedklilkaaGreatWc
set_option linter.unusedVariables false
namespace Go.Av
open Go Go.Proofs
set_option maxRecDepth 100000
theorem eWD : (clz (fun _ _ => none) (tabP tab16) s16 z16 400 60).c 15 [mB, histB] [] = some (.tup [.rf 0 2 0 2, .int .i64 0], rowB) := by kernel_rfl
theorem kWD : ACall PA 15 [mB, histB] [] (.tup [.rf 0 2 0 2, .int .i64 0]) rowB := (clz_ok hmA ⟨fun _ _ _ _ h => by cases h⟩ (tabP_ok tab16_ok) 60).c _ _ _ _ _ eWD
end Go.Av
