/- The closed calls of WholeCommon at low 1, high 1. -/
import Derived.Test.YteapmdjkcpjbmaaGreatRunA
import Derived.KernelRfl
namespace Go.Proofs.YteapmdjkcpjbmaaGreat.wholeCommon
open Go.Abs
theorem run1111 : retB (evalM Tryz.prog [(4, true)] 200 (.call 3 [I8 1, I8 1, I8 1, I8 1] .nil 0)) = some true := by kernel_rfl
theorem run1112 : retB (evalM Tryz.prog [(4, true)] 200 (.call 3 [I8 1, I8 1, I8 1, I8 2] .nil 0)) = some true := by kernel_rfl
theorem run1122 : retB (evalM Tryz.prog [(4, true)] 200 (.call 3 [I8 1, I8 1, I8 2, I8 2] .nil 0)) = some true := by kernel_rfl
theorem run1113 : retB (evalM Tryz.prog [(4, true)] 200 (.call 3 [I8 1, I8 1, I8 1, I8 3] .nil 0)) = some true := by kernel_rfl
theorem run1123 : retB (evalM Tryz.prog [(4, true)] 200 (.call 3 [I8 1, I8 1, I8 2, I8 3] .nil 0)) = some true := by kernel_rfl
theorem run1133 : retB (evalM Tryz.prog [(4, true)] 200 (.call 3 [I8 1, I8 1, I8 3, I8 3] .nil 0)) = some true := by kernel_rfl
end Go.Proofs.YteapmdjkcpjbmaaGreat.wholeCommon
