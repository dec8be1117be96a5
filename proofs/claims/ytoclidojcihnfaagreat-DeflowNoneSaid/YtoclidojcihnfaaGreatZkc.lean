/- Part of an evaluator of the program's calls, proved sound: what it yields, the program does in every world. No condition beyond those that each theorem names. -/
import Derived.Test.YtoclidojcihnfaaGreatZtab
set_option linter.unusedVariables false
namespace Go.Gx
open Go.RowKit Go.Gv Go.Proofs
theorem c5_run : chkR c5 (Xk [] [] c5.f c5.args c5.h0) = true := by kernel_rfl
theorem c5_ok : KrOK Tryz.prog c5 := chkR_ok (xfr_ok (fun _ h => absurd h (by simp)) (fun _ h => absurd h (by simp)) 60) c5_run (by kernel_rfl) (by kernel_rfl) (by kernel_rfl) (by kernel_rfl)
theorem c6_run : chkR c6 (Xk [] [] c6.f c6.args c6.h0) = true := by kernel_rfl
theorem c6_ok : KrOK Tryz.prog c6 := chkR_ok (xfr_ok (fun _ h => absurd h (by simp)) (fun _ h => absurd h (by simp)) 60) c6_run (by kernel_rfl) (by kernel_rfl) (by kernel_rfl) (by kernel_rfl)
theorem c7_run : chkR c7 (Xk [] [] c7.f c7.args c7.h0) = true := by kernel_rfl
theorem c7_ok : KrOK Tryz.prog c7 := chkR_ok (xfr_ok (fun _ h => absurd h (by simp)) (fun _ h => absurd h (by simp)) 60) c7_run (by kernel_rfl) (by kernel_rfl) (by kernel_rfl) (by kernel_rfl)
end Go.Gx
