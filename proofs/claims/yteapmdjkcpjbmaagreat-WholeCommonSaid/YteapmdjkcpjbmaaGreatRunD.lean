/- The closed calls of WholeCommon at low 2, high 2. -/
import Derived.Test.YteapmdjkcpjbmaaGreatRunA
import Derived.KernelRfl
namespace Go.Proofs.YteapmdjkcpjbmaaGreat.wholeCommon
open Go.Abs
theorem run2211 : retB (evalM Tryz.prog [(4, true)] 200 (.call 3 [I8 2, I8 2, I8 1, I8 1] .nil 0)) = some true := by kernel_rfl
theorem run2212 : retB (evalM Tryz.prog [(4, true)] 200 (.call 3 [I8 2, I8 2, I8 1, I8 2] .nil 0)) = some true := by kernel_rfl
theorem run2222 : retB (evalM Tryz.prog [(4, true)] 200 (.call 3 [I8 2, I8 2, I8 2, I8 2] .nil 0)) = some true := by kernel_rfl
theorem run2213 : retB (evalM Tryz.prog [(4, true)] 200 (.call 3 [I8 2, I8 2, I8 1, I8 3] .nil 0)) = some true := by kernel_rfl
theorem run2223 : retB (evalM Tryz.prog [(4, true)] 200 (.call 3 [I8 2, I8 2, I8 2, I8 3] .nil 0)) = some true := by kernel_rfl
theorem run2233 : retB (evalM Tryz.prog [(4, true)] 200 (.call 3 [I8 2, I8 2, I8 3, I8 3] .nil 0)) = some true := by kernel_rfl
end Go.Proofs.YteapmdjkcpjbmaaGreat.wholeCommon
