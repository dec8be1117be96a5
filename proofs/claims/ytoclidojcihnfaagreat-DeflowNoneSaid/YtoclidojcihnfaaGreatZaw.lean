/- Part of an evaluator of the program's calls, proved sound: what it yields, the program does in every world. No condition beyond those that each theorem names. -/
import Derived.Test.YtoclidojcihnfaaGreatZev
set_option linter.unusedVariables false
namespace Go.Gx
open Go.RowKit Go.Gv Go.Proofs
noncomputable def ka : Kn := ⟨7, [], .o (.b true)⟩
theorem awake_run : isB (Xk [kc] [] 7 [] H.none) = true := by kernel_rfl
theorem ka_ok : KnOK Tryz.prog ka := by
  obtain ⟨g, hg⟩ := isB_some awake_run
  exact KnOK.of (xfr_ok (fun k h => by rw [List.mem_singleton.1 h]; exact kc_ok) (fun _ h => absurd h (by simp)) 60) hg rfl rfl
theorem law_run (l : List Nat) : isB (Xk [ka] [] 3 [.o (.s l)] H.none) = true := by kernel_rfl
theorem law_walk (w : World) (a0 : ByteArray) : Calls Tryz.prog 3 #[.string a0] w fun e w' => e = .returned (.bool true) ∧ Below w.heap.size w w' :=
  walk_of (xfr_ok (fun k h => by rw [List.mem_singleton.1 h]; exact ka_ok) (fun _ h => absurd h (by simp)) 60) (fun l => isB_some (law_run l)) w a0
end Go.Gx
