/- The closed calls of WholeCommon at low 3, high 3. -/
import Derived.Test.YteapmdjkcpjbmaaGreatRunA
import Derived.KernelRfl
namespace Go.Proofs.YteapmdjkcpjbmaaGreat.wholeCommon
open Go.Abs
theorem run3311 : retB (evalM Tryz.prog [(4, true)] 200 (.call 3 [I8 3, I8 3, I8 1, I8 1] .nil 0)) = some true := by kernel_rfl
theorem run3312 : retB (evalM Tryz.prog [(4, true)] 200 (.call 3 [I8 3, I8 3, I8 1, I8 2] .nil 0)) = some true := by kernel_rfl
theorem run3322 : retB (evalM Tryz.prog [(4, true)] 200 (.call 3 [I8 3, I8 3, I8 2, I8 2] .nil 0)) = some true := by kernel_rfl
theorem run3313 : retB (evalM Tryz.prog [(4, true)] 200 (.call 3 [I8 3, I8 3, I8 1, I8 3] .nil 0)) = some true := by kernel_rfl
theorem run3323 : retB (evalM Tryz.prog [(4, true)] 200 (.call 3 [I8 3, I8 3, I8 2, I8 3] .nil 0)) = some true := by kernel_rfl
theorem run3333 : retB (evalM Tryz.prog [(4, true)] 200 (.call 3 [I8 3, I8 3, I8 3, I8 3] .nil 0)) = some true := by kernel_rfl
end Go.Proofs.YteapmdjkcpjbmaaGreat.wholeCommon
