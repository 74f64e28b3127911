/- What the statements' last steps share: the world of the witness, which holds the two listed tables. -/
import Derived.Test.YteoeahmfpohpeaaDoorOpenB
import Derived.Test.YteoeahmfpohpeaaDoorCards
import Derived.Test.YteoeahmfpohpeaaDoorTie
import Derived.WalkKit
import Derived.ProofKit
import Derived.Carry
import Derived.Deep.DeepHandedRow
import Derived.Lib.LaidTab
namespace Go.Proofs.YteoeahmfpohpeaaDoor
open Go.ChangeShapes Go.WideShapes Go.ChangeAt Go.RowKit
set_option maxRecDepth 100000
set_option linter.unusedVariables false

theorem own_knob : ownKnob Tryd.prog.godebug = none := by kernel_rfl
theorem laid_out : laidOutB Tryd.prog = true := by kernel_rfl
theorem rec_conds : Tryd.prog.readableRec 26 = true := by kernel_rfl
theorem rec_pts : Tryd.prog.readableRec 27 = true := by kernel_rfl
theorem row_conds : 26 < Tryd.prog.types.size := of_decide_eq_true (by kernel_rfl)
theorem row_pts : 27 < Tryd.prog.types.size := of_decide_eq_true (by kernel_rfl)

/-- The ranges of the second byte, as the table lays them. -/
def ranges : List Value := [.int .u8 128, .int .u8 191, .int .u8 160, .int .u8 191, .int .u8 128, .int .u8 159, .int .u8 144, .int .u8 191, .int .u8 128, .int .u8 143] ++ List.replicate 22 (.int .u8 0)
/-- A block's cells, put in place of what lay there. -/
def laidCells (cs : List Value) : Obj → Obj
  | .cells _ t frozen => .cells cs.toArray t frozen
  | o => o
/-- A world that holds both tables. -/
noncomputable def laidWorld (os : Os) : World :=
  { World.holding Tryd.prog os ⟨#[], #[], []⟩ with heap := ((World.holding Tryd.prog os ⟨#[], #[], []⟩).heap.modify 0 (laidCells (Go.Pinned.utf8FirstZ.map fun (n : Nat) => Value.int .u8 (n : Nat)))).modify 1 (laidCells ranges) }
/-- A condition of zeros. -/
def zeroCond : Value := .agg #[.int .i64 0, .string ⟨#[]⟩, .int .i64 0, .int .i64 0, .string ⟨#[]⟩, .int .i64 0, .int .i64 0, .slice none 0 0]
end Go.Proofs.YteoeahmfpohpeaaDoor
