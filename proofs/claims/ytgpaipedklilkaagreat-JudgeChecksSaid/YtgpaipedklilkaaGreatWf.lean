/- judge.Judge at the other order. -/
import Derived.Test.YtgpaipedklilkaaGreatWc
set_option linter.unusedVariables false
namespace Go.Av
open Go Go.Proofs
set_option maxRecDepth 100000
theorem eWF : (clz (fun _ _ => none) (tabP tab16) s16 z16 400 60).c 20 [mB, histB, .sl true [.int .i64 0, .int .i64 1]] rowC = some (.tup [z5, .int .i64 1, .int .i64 262], rowC) := by kernel_rfl
theorem kWF : ACall PA 20 [mB, histB, .sl true [.int .i64 0, .int .i64 1]] rowC (.tup [z5, .int .i64 1, .int .i64 262]) rowC := (clz_ok hmA ⟨fun _ _ _ _ h => by cases h⟩ (tabP_ok tab16_ok) 60).c _ _ _ _ _ eWF
end Go.Av
