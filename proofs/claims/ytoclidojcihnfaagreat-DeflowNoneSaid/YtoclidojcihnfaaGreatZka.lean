/- Part of an evaluator of the program's calls, proved sound: what it yields, the program does in every world. No condition beyond those that each theorem names. -/
import Derived.Test.YtoclidojcihnfaaGreatZtab
set_option linter.unusedVariables false
namespace Go.Gx
open Go.RowKit Go.Gv Go.Proofs
theorem c1_run : chkR c1 (Xk [] [] c1.f c1.args c1.h0) = true := by kernel_rfl
theorem c1_ok : KrOK Tryz.prog c1 := chkR_ok (xfr_ok (fun _ h => absurd h (by simp)) (fun _ h => absurd h (by simp)) 60) c1_run (by kernel_rfl) (by kernel_rfl) (by kernel_rfl) (by kernel_rfl)
theorem c2_run : chkR c2 (Xk [] [] c2.f c2.args c2.h0) = true := by kernel_rfl
theorem c2_ok : KrOK Tryz.prog c2 := chkR_ok (xfr_ok (fun _ h => absurd h (by simp)) (fun _ h => absurd h (by simp)) 60) c2_run (by kernel_rfl) (by kernel_rfl) (by kernel_rfl) (by kernel_rfl)
end Go.Gx
