/- Walks: lodestarlaw16.of. -/
import Derived.Test.YteoeahmfpohpeaaDoorWalkU
namespace Go.Proofs.YteoeahmfpohpeaaDoor
open Go.RowKit Go.Shelf
set_option maxRecDepth 100000
set_option linter.unusedVariables false
set_option linter.unusedSimpArgs false

set_option maxHeartbeats 1000000 in
theorem of_calls (w : World) (k : Int) (A : Option Addr) (m c : Nat) :
    Calls Tryd.prog 12 #[.int .i64 k, .slice A m c] w fun e w' => e = .returned (.agg (cCells k ⟨#[]⟩ Val.zero 0 0 (.slice A m c)).toArray) ∧ Below w.heap.size w w' := by
  go_enter Tryd.func12, Tryd.ntmps12
  go_wp2
  refine bodyPost_ret (v := .agg (cCells k ⟨#[]⟩ Val.zero 0 0 (.slice A m c)).toArray) (by simp [results, Tryd.results12, go_sem, cCells, Val.zero]) rfl ⟨rfl, ?_⟩
  repeat (first | exact Below.refl _ _ | refine below_allocS ?_ _)
end Go.Proofs.YteoeahmfpohpeaaDoor
