/- The first model; the same numbers; 'wakes' of law 16 is true. -/
import Derived.Test.YtgpaipedklilkaaGreatWd
import Derived.Test.YtgpaipedklilkaaGreatWe
import Derived.Test.YtgpaipedklilkaaGreatWf
import Derived.Test.YtgpaipedklilkaaGreatMx
set_option linter.unusedVariables false
namespace Go.Av
open Go Go.Proofs
set_option maxRecDepth 100000
theorem eG0 : (clz (fun _ _ => none) (tabP tab16) s16 z16 400 60).c 54 [] [] = some (mB, []) := by kernel_rfl
theorem kG0 : ACall PA 54 [] [] mB [] := (clz_ok hmA ⟨fun _ _ _ _ h => by cases h⟩ (tabP_ok tab16_ok) 60).c _ _ _ _ _ eG0
theorem eG1 : (clz (fun _ _ => none) (tabP tab16) s16 z16 400 60).c 54 [] rowB = some (mB, rowB) := by kernel_rfl
theorem kG1 : ACall PA 54 [] rowB mB rowB := (clz_ok hmA ⟨fun _ _ _ _ h => by cases h⟩ (tabP_ok tab16_ok) 60).c _ _ _ _ _ eG1
theorem eG2 : (clz (fun _ _ => none) (tabP tab16) s16 z16 400 60).c 54 [] rowC = some (mB, rowC) := by kernel_rfl
theorem kG2 : ACall PA 54 [] rowC mB rowC := (clz_ok hmA ⟨fun _ _ _ _ h => by cases h⟩ (tabP_ok tab16_ok) 60).c _ _ _ _ _ eG2
theorem eS : (clz (fun _ _ => none) (tabP tab16) s16 z16 400 60).c 49 [.rf 0 2 0 2, .sl true [.int .i64 1, .int .i64 0]] rowD = some (.bool true, rowD) := by kernel_rfl
theorem kS : ACall PA 49 [.rf 0 2 0 2, .sl true [.int .i64 1, .int .i64 0]] rowD (.bool true) rowD := (clz_ok hmA ⟨fun _ _ _ _ h => by cases h⟩ (tabP_ok tab16_ok) 60).c _ _ _ _ _ eS
set_option maxHeartbeats 4000000
def SW0 : Spec := fun _ _ => none
theorem k13 : ACall PA 13 [] [] (.bool true) [] := by
  refine ACall.ofG (S := SW0) ⟨fun _ _ _ _ h => by cases h⟩ hmA h13 (by kernel_rfl) (Nat.le_of_ble_eq_true rfl) (Hstay.refl []) fun hbel => aS_den ?_
  simp only [WK, simprocAttr, c13, n13, SW0]
  refine ⟨_, _, kG0, ?_⟩
  try simp only [WK, simprocAttr, SW0]
  refine ⟨_, _, kWD, ?_⟩
  try simp only [WK, simprocAttr, SW0]
  refine ⟨_, _, kG1, ?_⟩
  try simp only [WK, simprocAttr, SW0]
  refine ⟨_, _, kWE, ?_⟩
  try simp only [WK, simprocAttr, SW0, m20, rowB]
  refine ⟨_, _, kG2, ?_⟩
  try simp only [WK, simprocAttr, SW0]
  refine ⟨_, _, kWF, ?_⟩
  try simp only [WK, simprocAttr, SW0, z5, rowC]
  refine ⟨_, _, kS, ?_⟩
  try simp only [WK, simprocAttr, SW0]
  exact Fin.lost (h := []) (l := rowD) hbel (.inr rfl) rfl rfl rfl (.bool _)
end Go.Av
