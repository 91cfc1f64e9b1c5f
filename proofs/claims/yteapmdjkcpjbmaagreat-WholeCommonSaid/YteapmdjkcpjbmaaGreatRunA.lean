/- The closed calls of the seat's program: awakeBook; the early returns of WholeCommon. -/
import Derived.Test.YteapmdjkcpjbmaaGreatAbsY
import Derived.Test.YteapmdjkcpjbmaaGreatProg
import Derived.KernelRfl
namespace Go.Proofs.YteapmdjkcpjbmaaGreat.wholeCommon
open Go.Abs

abbrev I8 (n : Nat) : V := .int .u8 (.ofNat n)
theorem good : goodB Tryz.prog = true := by kernel_rfl
theorem awake : retB (eval Tryz.prog 200 (.call 4 [] .nil 0)) = some true := by kernel_rfl
theorem early0 (b c d : Nat) : retB (evalM Tryz.prog [(4, true)] 200 (.call 3 [I8 0, I8 b, I8 c, I8 d] .nil 0)) = some true := by kernel_rfl
theorem earlyB (n m c d : Nat) : retB (evalM Tryz.prog [(4, true)] 200 (.call 3 [I8 (n + 1), I8 (m + 4), I8 c, I8 d] .nil 0)) = some true := by kernel_rfl
theorem earlyC0 (n d : Nat) : retB (evalM Tryz.prog [(4, true)] 200 (.call 3 [I8 (n + 1), I8 0, I8 0, I8 d] .nil 0)) = some true := by kernel_rfl
theorem earlyD0 (n k m : Nat) : retB (evalM Tryz.prog [(4, true)] 200 (.call 3 [I8 (n + 1), I8 0, I8 (k + 1), I8 (m + 4)] .nil 0)) = some true := by kernel_rfl
theorem earlyE00 (n k : Nat) : retB (evalM Tryz.prog [(4, true)] 200 (.call 3 [I8 (n + 1), I8 0, I8 (k + 1), I8 0] .nil 0)) = some true := by kernel_rfl
theorem earlyE01 (n k : Nat) : retB (evalM Tryz.prog [(4, true)] 200 (.call 3 [I8 (n + 1), I8 0, I8 (k + 1), I8 1] .nil 0)) = some true := by kernel_rfl
theorem earlyE02 (n k : Nat) : retB (evalM Tryz.prog [(4, true)] 200 (.call 3 [I8 (n + 1), I8 0, I8 (k + 1), I8 2] .nil 0)) = some true := by kernel_rfl
theorem earlyE03 (n k : Nat) : retB (evalM Tryz.prog [(4, true)] 200 (.call 3 [I8 (n + 1), I8 0, I8 (k + 1), I8 3] .nil 0)) = some true := by kernel_rfl
theorem earlyC1 (n d : Nat) : retB (evalM Tryz.prog [(4, true)] 200 (.call 3 [I8 (n + 1), I8 1, I8 0, I8 d] .nil 0)) = some true := by kernel_rfl
theorem earlyD1 (n k m : Nat) : retB (evalM Tryz.prog [(4, true)] 200 (.call 3 [I8 (n + 1), I8 1, I8 (k + 1), I8 (m + 4)] .nil 0)) = some true := by kernel_rfl
theorem earlyE10 (n k : Nat) : retB (evalM Tryz.prog [(4, true)] 200 (.call 3 [I8 (n + 2), I8 1, I8 (k + 1), I8 0] .nil 0)) = some true := by kernel_rfl
theorem earlyE11 (n k : Nat) : retB (evalM Tryz.prog [(4, true)] 200 (.call 3 [I8 (n + 2), I8 1, I8 (k + 1), I8 1] .nil 0)) = some true := by kernel_rfl
theorem earlyE12 (n k : Nat) : retB (evalM Tryz.prog [(4, true)] 200 (.call 3 [I8 (n + 2), I8 1, I8 (k + 1), I8 2] .nil 0)) = some true := by kernel_rfl
theorem earlyE13 (n k : Nat) : retB (evalM Tryz.prog [(4, true)] 200 (.call 3 [I8 (n + 2), I8 1, I8 (k + 1), I8 3] .nil 0)) = some true := by kernel_rfl
theorem earlyC2 (n d : Nat) : retB (evalM Tryz.prog [(4, true)] 200 (.call 3 [I8 (n + 1), I8 2, I8 0, I8 d] .nil 0)) = some true := by kernel_rfl
theorem earlyD2 (n k m : Nat) : retB (evalM Tryz.prog [(4, true)] 200 (.call 3 [I8 (n + 1), I8 2, I8 (k + 1), I8 (m + 4)] .nil 0)) = some true := by kernel_rfl
theorem earlyE20 (n k : Nat) : retB (evalM Tryz.prog [(4, true)] 200 (.call 3 [I8 (n + 3), I8 2, I8 (k + 1), I8 0] .nil 0)) = some true := by kernel_rfl
theorem earlyE21 (n k : Nat) : retB (evalM Tryz.prog [(4, true)] 200 (.call 3 [I8 (n + 3), I8 2, I8 (k + 1), I8 1] .nil 0)) = some true := by kernel_rfl
theorem earlyE22 (n k : Nat) : retB (evalM Tryz.prog [(4, true)] 200 (.call 3 [I8 (n + 3), I8 2, I8 (k + 1), I8 2] .nil 0)) = some true := by kernel_rfl
theorem earlyE23 (n k : Nat) : retB (evalM Tryz.prog [(4, true)] 200 (.call 3 [I8 (n + 3), I8 2, I8 (k + 1), I8 3] .nil 0)) = some true := by kernel_rfl
theorem earlyC3 (n d : Nat) : retB (evalM Tryz.prog [(4, true)] 200 (.call 3 [I8 (n + 1), I8 3, I8 0, I8 d] .nil 0)) = some true := by kernel_rfl
theorem earlyD3 (n k m : Nat) : retB (evalM Tryz.prog [(4, true)] 200 (.call 3 [I8 (n + 1), I8 3, I8 (k + 1), I8 (m + 4)] .nil 0)) = some true := by kernel_rfl
theorem earlyE30 (n k : Nat) : retB (evalM Tryz.prog [(4, true)] 200 (.call 3 [I8 (n + 4), I8 3, I8 (k + 1), I8 0] .nil 0)) = some true := by kernel_rfl
theorem earlyE31 (n k : Nat) : retB (evalM Tryz.prog [(4, true)] 200 (.call 3 [I8 (n + 4), I8 3, I8 (k + 1), I8 1] .nil 0)) = some true := by kernel_rfl
theorem earlyE32 (n k : Nat) : retB (evalM Tryz.prog [(4, true)] 200 (.call 3 [I8 (n + 4), I8 3, I8 (k + 1), I8 2] .nil 0)) = some true := by kernel_rfl
theorem earlyE33 (n k : Nat) : retB (evalM Tryz.prog [(4, true)] 200 (.call 3 [I8 (n + 4), I8 3, I8 (k + 1), I8 3] .nil 0)) = some true := by kernel_rfl
theorem earlyF110 (k : Nat) : retB (evalM Tryz.prog [(4, true)] 200 (.call 3 [I8 1, I8 1, I8 (k + 1), I8 0] .nil 0)) = some true := by kernel_rfl
theorem earlyF111 (k : Nat) : retB (evalM Tryz.prog [(4, true)] 200 (.call 3 [I8 1, I8 1, I8 (k + 2), I8 1] .nil 0)) = some true := by kernel_rfl
theorem earlyF112 (k : Nat) : retB (evalM Tryz.prog [(4, true)] 200 (.call 3 [I8 1, I8 1, I8 (k + 3), I8 2] .nil 0)) = some true := by kernel_rfl
theorem earlyF113 (k : Nat) : retB (evalM Tryz.prog [(4, true)] 200 (.call 3 [I8 1, I8 1, I8 (k + 4), I8 3] .nil 0)) = some true := by kernel_rfl
theorem earlyF120 (k : Nat) : retB (evalM Tryz.prog [(4, true)] 200 (.call 3 [I8 1, I8 2, I8 (k + 1), I8 0] .nil 0)) = some true := by kernel_rfl
theorem earlyF121 (k : Nat) : retB (evalM Tryz.prog [(4, true)] 200 (.call 3 [I8 1, I8 2, I8 (k + 2), I8 1] .nil 0)) = some true := by kernel_rfl
theorem earlyF122 (k : Nat) : retB (evalM Tryz.prog [(4, true)] 200 (.call 3 [I8 1, I8 2, I8 (k + 3), I8 2] .nil 0)) = some true := by kernel_rfl
theorem earlyF123 (k : Nat) : retB (evalM Tryz.prog [(4, true)] 200 (.call 3 [I8 1, I8 2, I8 (k + 4), I8 3] .nil 0)) = some true := by kernel_rfl
theorem earlyF220 (k : Nat) : retB (evalM Tryz.prog [(4, true)] 200 (.call 3 [I8 2, I8 2, I8 (k + 1), I8 0] .nil 0)) = some true := by kernel_rfl
theorem earlyF221 (k : Nat) : retB (evalM Tryz.prog [(4, true)] 200 (.call 3 [I8 2, I8 2, I8 (k + 2), I8 1] .nil 0)) = some true := by kernel_rfl
theorem earlyF222 (k : Nat) : retB (evalM Tryz.prog [(4, true)] 200 (.call 3 [I8 2, I8 2, I8 (k + 3), I8 2] .nil 0)) = some true := by kernel_rfl
theorem earlyF223 (k : Nat) : retB (evalM Tryz.prog [(4, true)] 200 (.call 3 [I8 2, I8 2, I8 (k + 4), I8 3] .nil 0)) = some true := by kernel_rfl
theorem earlyF130 (k : Nat) : retB (evalM Tryz.prog [(4, true)] 200 (.call 3 [I8 1, I8 3, I8 (k + 1), I8 0] .nil 0)) = some true := by kernel_rfl
theorem earlyF131 (k : Nat) : retB (evalM Tryz.prog [(4, true)] 200 (.call 3 [I8 1, I8 3, I8 (k + 2), I8 1] .nil 0)) = some true := by kernel_rfl
theorem earlyF132 (k : Nat) : retB (evalM Tryz.prog [(4, true)] 200 (.call 3 [I8 1, I8 3, I8 (k + 3), I8 2] .nil 0)) = some true := by kernel_rfl
theorem earlyF133 (k : Nat) : retB (evalM Tryz.prog [(4, true)] 200 (.call 3 [I8 1, I8 3, I8 (k + 4), I8 3] .nil 0)) = some true := by kernel_rfl
theorem earlyF230 (k : Nat) : retB (evalM Tryz.prog [(4, true)] 200 (.call 3 [I8 2, I8 3, I8 (k + 1), I8 0] .nil 0)) = some true := by kernel_rfl
theorem earlyF231 (k : Nat) : retB (evalM Tryz.prog [(4, true)] 200 (.call 3 [I8 2, I8 3, I8 (k + 2), I8 1] .nil 0)) = some true := by kernel_rfl
theorem earlyF232 (k : Nat) : retB (evalM Tryz.prog [(4, true)] 200 (.call 3 [I8 2, I8 3, I8 (k + 3), I8 2] .nil 0)) = some true := by kernel_rfl
theorem earlyF233 (k : Nat) : retB (evalM Tryz.prog [(4, true)] 200 (.call 3 [I8 2, I8 3, I8 (k + 4), I8 3] .nil 0)) = some true := by kernel_rfl
theorem earlyF330 (k : Nat) : retB (evalM Tryz.prog [(4, true)] 200 (.call 3 [I8 3, I8 3, I8 (k + 1), I8 0] .nil 0)) = some true := by kernel_rfl
theorem earlyF331 (k : Nat) : retB (evalM Tryz.prog [(4, true)] 200 (.call 3 [I8 3, I8 3, I8 (k + 2), I8 1] .nil 0)) = some true := by kernel_rfl
theorem earlyF332 (k : Nat) : retB (evalM Tryz.prog [(4, true)] 200 (.call 3 [I8 3, I8 3, I8 (k + 3), I8 2] .nil 0)) = some true := by kernel_rfl
theorem earlyF333 (k : Nat) : retB (evalM Tryz.prog [(4, true)] 200 (.call 3 [I8 3, I8 3, I8 (k + 4), I8 3] .nil 0)) = some true := by kernel_rfl
end Go.Proofs.YteapmdjkcpjbmaaGreat.wholeCommon
