/- Part of an evaluator of the program's calls, proved sound: what it yields, the program does in every world. No condition beyond those that each theorem names. -/
import Derived.Test.YtoclidojcihnfaaGreatZtab
set_option linter.unusedVariables false
namespace Go.Gx
open Go.RowKit Go.Gv Go.Proofs
theorem c3_run : chkR c3 (Xk [] [] c3.f c3.args c3.h0) = true := by kernel_rfl
theorem c3_ok : KrOK Tryz.prog c3 := chkR_ok (xfr_ok (fun _ h => absurd h (by simp)) (fun _ h => absurd h (by simp)) 60) c3_run (by kernel_rfl) (by kernel_rfl) (by kernel_rfl) (by kernel_rfl)
theorem c4_run : chkR c4 (Xk [] [] c4.f c4.args c4.h0) = true := by kernel_rfl
theorem c4_ok : KrOK Tryz.prog c4 := chkR_ok (xfr_ok (fun _ h => absurd h (by simp)) (fun _ h => absurd h (by simp)) 60) c4_run (by kernel_rfl) (by kernel_rfl) (by kernel_rfl) (by kernel_rfl)
end Go.Gx
