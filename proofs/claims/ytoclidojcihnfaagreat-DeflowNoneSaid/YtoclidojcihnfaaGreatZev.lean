/- Part of an evaluator of the program's calls, proved sound: what it yields, the program does in every world. No condition beyond those that each theorem names. -/
import Derived.Test.YtoclidojcihnfaaGreatZka
import Derived.Test.YtoclidojcihnfaaGreatZkb
import Derived.Test.YtoclidojcihnfaaGreatZkc
set_option linter.unusedVariables false
namespace Go.Gx
open Go.RowKit Go.Gv Go.Proofs
theorem cs_ok : ∀ k ∈ [c1, c2, c3, c4, c5, c6, c7], KrOK Tryz.prog k := by
  intro k hk
  simp only [List.mem_cons, List.not_mem_nil, or_false] at hk
  rcases hk with rfl | rfl | rfl | rfl | rfl | rfl | rfl
  · exact c1_ok
  · exact c2_ok
  · exact c3_ok
  · exact c4_ok
  · exact c5_ok
  · exact c6_ok
  · exact c7_ok
theorem coded_run : eqR (Xk [] [c1, c2, c3, c4, c5, c6, c7] 36 kc.args H.none) = true := by kernel_rfl
theorem kc_ok : KnOK Tryz.prog kc := by
  obtain ⟨g, hg⟩ := eqR_some coded_run
  exact KnOK.of (xfr_ok (fun _ h => absurd h (by simp)) cs_ok 60) hg rfl rfl
end Go.Gx
