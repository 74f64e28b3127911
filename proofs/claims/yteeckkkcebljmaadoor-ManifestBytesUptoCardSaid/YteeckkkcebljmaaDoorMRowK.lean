/- What the statements' last steps share: what the listed variables give the walks; the world of the witness, which holds them. -/
import Derived.Test.YteeckkkcebljmaaDoorMOpenB
import Derived.Test.YteeckkkcebljmaaDoorCards
import Derived.Test.YteeckkkcebljmaaDoorTie
import Derived.WalkKit
import Derived.ProofKit
import Derived.Carry
import Derived.Stop.LaidErr
import Derived.Deep.DeepHandedRow
import Derived.Deep.DeepWitnessRowRef
import Derived.Lib.LaidTab
namespace Go.Proofs.YteeckkkcebljmaaDoor
open Go.ChangeShapes Go.WideShapes Go.ChangeAt Go.RowKit
set_option maxRecDepth 100000
set_option linter.unusedVariables false

theorem own_knob : ownKnob Tryd.prog.godebug = none := by kernel_rfl
theorem laid_out : laidOutB Tryd.prog = true := by kernel_rfl

theorem g_pow : Tryd.prog.globalNamed "internal/strconv.uint64pow10" = some 0 := by kernel_rfl
theorem gt_pow : (Tryd.prog.globals[0]?).map (·.type) = some 82 := by kernel_rfl
theorem c_pow : Tryd.prog.cellsOf 82 = 20 := by kernel_rfl
theorem c_u64 : Tryd.prog.cellsOf 55 = 1 := by kernel_rfl
theorem g_rng : Tryd.prog.globalNamed "strconv.ErrRange" = some 3 := by kernel_rfl
theorem gt_rng : (Tryd.prog.globals[3]?).map (·.type) = some 58 := by kernel_rfl
theorem g_syn : Tryd.prog.globalNamed "strconv.ErrSyntax" = some 2 := by kernel_rfl
theorem gt_syn : (Tryd.prog.globals[2]?).map (·.type) = some 58 := by kernel_rfl
theorem c_errs : Tryd.prog.cellsOf 104 = 1 := by kernel_rfl
theorem star_errs : "*" ++ "errors.errorString" = "*errors.errorString" := by decide
theorem row_errs (u : TypeId) (h : Tryd.prog.typeName? 3 u = some "*errors.errorString") : u = 102 :=
  typeName_ptr_named (nm := "errors.errorString") (by rw [star_errs]; kernel_rfl) (by kernel_rfl) (by decide) u (by rw [star_errs]; exact h)

theorem var_block {P : Program} {W : World} {n : String} {cs : Array Value} {g : Nat} (h : W.var? P n = some cs) (hg : P.globalNamed n = some g) : ∃ t fr, W.heap[g]? = some (.cells cs t fr) := by
  unfold World.var? at h
  rw [hg] at h
  simp only [Option.bind_some] at h
  split at h
  · rename_i c t fr e
    cases h
    exact ⟨t, fr, e⟩
  · cases h
/-- A variable of an integer's type holds some integer. -/
theorem int_of_shape {P : Program} {w : World} {g : Nat} {t : TypeId} {k : IntKind} {zero : Array Value} (h : w.ShapedOpen P) (hg : g < P.globals.size)
    (h0 : ((begin P (fun _ _ => 0) default).world.heap[g]?).bind Obj.row? = some (zero, t)) (hz : zero.size = 1)
    (hb : P.buildable t = true) (hc : P.cellTypes P.depth t = some [t]) (hu : P.underlying t = some (.int k)) : ∃ m t' fr, w.heap[g]? = some (.cells #[.int k m] t' fr) := by
  obtain ⟨cs, hh, hs, hr⟩ := h.1 g zero t hg h0
  obtain ⟨ts, hts, _, hall⟩ := hr hb
  rw [hc] at hts
  cases hts
  have h1 : 0 < cs.size := by omega
  obtain ⟨u, hu', hok⟩ := hall 0 cs[0] (by simp [h1])
  have : u = t := by simpa using hu'.symm
  subst this
  have hcs : cs = #[cs[0]] := by
    apply Array.ext
    · simp; omega
    · intro i h2 h3
      have : i = 0 := by omega
      subst this
      rfl
  unfold Cell.ok at hok
  rw [hu] at hok
  cases hv : cs[0] <;> rw [hv] at hok <;> first | (simp at hok; done) | skip
  all_goals
    rw [hv] at hcs
    simp at hok
    first | (obtain ⟨rfl, _⟩ := hok; exact ⟨_, _, _, hcs ▸ hh⟩) | (obtain rfl := hok; exact ⟨_, _, _, hcs ▸ hh⟩)
theorem mx_of_shape {W : World} (h : W.ShapedOpen Tryd.prog) : ∃ m t fr, W.heap[1]? = some (.cells #[.int .i64 m] t fr) :=
  int_of_shape (t := 3) (zero := #[.int .i64 0]) h (of_decide_eq_true (by kernel_rfl)) (by kernel_rfl) rfl (by kernel_rfl) (by kernel_rfl) Tryd.underlying3
/-- What the row's list gives the walks. -/
theorem gl_of_laid {W : World} (hL : laidMet Tryd.prog Rows.manifestBytesRow.laid W) (hS : W.ShapedOpen Tryd.prog) : GL (hp W) := by
  have hp10 := Lib.tabIs_of_head (k := .u64) (zs := Lib.pow10Tab) g_pow gt_pow Tryd.underlying82 Tryd.underlying55 c_u64 c_pow hL.tail.tail
  obtain ⟨a1, s1, hv1, -, -, -⟩ := laid_sentinel hL.tail.tail.tail.tail g_rng gt_rng Tryd.underlying58 row_errs Tryd.underlying102 Tryd.underlying104 rfl rfl Tryd.underlying9 c_errs cells_string
  obtain ⟨a2, s2, hv2, -, -, -⟩ := laid_sentinel hL.tail.tail.tail.tail.tail g_syn gt_syn Tryd.underlying58 row_errs Tryd.underlying102 Tryd.underlying104 rfl rfl Tryd.underlying9 c_errs cells_string
  obtain ⟨t1, f1, e1⟩ := var_block hv1 g_rng
  obtain ⟨t2, f2, e2⟩ := var_block hv2 g_syn
  obtain ⟨t3, f3, e3⟩ := var_block hp10 g_pow
  exact ⟨⟨_, t2, f2, e2, .inr ⟨_, _, rfl⟩⟩, ⟨_, t1, f1, e1, .inr ⟨_, _, rfl⟩⟩, ⟨t3, f3, e3⟩, mx_of_shape hS⟩

/-- A block's cells, put in place of what lay there. -/
def laidCells (cs : List Value) : Obj → Obj
  | .cells _ t frozen => .cells cs.toArray t frozen
  | o => o
abbrev synS : ByteArray := { data := #[105, 110, 118, 97, 108, 105, 100, 32, 115, 121, 110, 116, 97, 120] }
abbrev rngS : ByteArray := { data := #[118, 97, 108, 117, 101, 32, 111, 117, 116, 32, 111, 102, 32, 114, 97, 110, 103, 101] }
/-- So many blocks has the settled world. -/
noncomputable def low : Nat := (World.holding Tryd.prog default ⟨#[], #[], []⟩).heap.size
/-- A world that holds what is listed. -/
noncomputable def laidWorld (os : Os) : World :=
  let w0 := World.holding Tryd.prog os ⟨#[.cells #[.string synS] 104, .cells #[.string rngS] 104], #[], []⟩
  { w0 with heap := ((((((w0.heap.modify 0 (laidCells [.int .u64 1, .int .u64 10, .int .u64 100, .int .u64 1000, .int .u64 10000, .int .u64 100000, .int .u64 1000000, .int .u64 10000000, .int .u64 100000000, .int .u64 1000000000, .int .u64 10000000000, .int .u64 100000000000, .int .u64 1000000000000, .int .u64 10000000000000, .int .u64 100000000000000, .int .u64 1000000000000000, .int .u64 10000000000000000, .int .u64 100000000000000000, .int .u64 1000000000000000000, .int .u64 10000000000000000000])).modify 2 (laidCells [.iface 102 (.pointer (some ⟨low, 0, none⟩))])).modify 3 (laidCells [.iface 102 (.pointer (some ⟨low + 1, 0, none⟩))])).modify 4 (laidCells (Go.Pinned.utf8FirstZ.map fun (n : Nat) => Value.int .u8 (n : Nat)))).modify 5 (laidCells [.int .u8 128, .int .u8 191, .int .u8 160, .int .u8 191, .int .u8 128, .int .u8 159, .int .u8 144, .int .u8 191, .int .u8 128, .int .u8 143, .int .u8 0, .int .u8 0, .int .u8 0, .int .u8 0, .int .u8 0, .int .u8 0, .int .u8 0, .int .u8 0, .int .u8 0, .int .u8 0, .int .u8 0, .int .u8 0, .int .u8 0, .int .u8 0, .int .u8 0, .int .u8 0, .int .u8 0, .int .u8 0, .int .u8 0, .int .u8 0, .int .u8 0, .int .u8 0])).modify 6 (laidCells [.int .u8 0, .int .u8 1, .int .u8 28, .int .u8 2, .int .u8 29, .int .u8 14, .int .u8 24, .int .u8 3, .int .u8 30, .int .u8 22, .int .u8 20, .int .u8 15, .int .u8 25, .int .u8 17, .int .u8 4, .int .u8 8, .int .u8 31, .int .u8 27, .int .u8 13, .int .u8 23, .int .u8 21, .int .u8 19, .int .u8 16, .int .u8 7, .int .u8 26, .int .u8 12, .int .u8 18, .int .u8 6, .int .u8 11, .int .u8 5, .int .u8 10, .int .u8 9])).modify 7 (laidCells [.int .u8 0, .int .u8 1, .int .u8 56, .int .u8 2, .int .u8 57, .int .u8 49, .int .u8 28, .int .u8 3, .int .u8 61, .int .u8 58, .int .u8 42, .int .u8 50, .int .u8 38, .int .u8 29, .int .u8 17, .int .u8 4, .int .u8 62, .int .u8 47, .int .u8 59, .int .u8 36, .int .u8 45, .int .u8 43, .int .u8 51, .int .u8 22, .int .u8 53, .int .u8 39, .int .u8 33, .int .u8 30, .int .u8 24, .int .u8 18, .int .u8 12, .int .u8 5, .int .u8 63, .int .u8 55, .int .u8 48, .int .u8 27, .int .u8 60, .int .u8 41, .int .u8 37, .int .u8 16, .int .u8 46, .int .u8 35, .int .u8 44, .int .u8 21, .int .u8 52, .int .u8 32, .int .u8 23, .int .u8 11, .int .u8 54, .int .u8 26, .int .u8 40, .int .u8 15, .int .u8 34, .int .u8 20, .int .u8 31, .int .u8 10, .int .u8 25, .int .u8 14, .int .u8 19, .int .u8 9, .int .u8 13, .int .u8 8, .int .u8 7, .int .u8 6]) }
theorem rec_man : Tryd.prog.readableRec 24 = true := by kernel_rfl
theorem rec_str : Tryd.prog.readableRec 9 = true := by kernel_rfl
theorem rec_int : Tryd.prog.readableRec 3 = true := by kernel_rfl
theorem rec_u8 : Tryd.prog.readableRec 5 = true := by kernel_rfl
theorem row_man : 24 < Tryd.prog.types.size := of_decide_eq_true (by kernel_rfl)
theorem row_str : 9 < Tryd.prog.types.size := of_decide_eq_true (by kernel_rfl)
theorem row_int : 3 < Tryd.prog.types.size := of_decide_eq_true (by kernel_rfl)
theorem row_u8 : 5 < Tryd.prog.types.size := of_decide_eq_true (by kernel_rfl)
def zeroMan : Value := .agg #[.slice none 0 0, .string ⟨#[]⟩, .int .i64 0, .int .i64 0]
end Go.Proofs.YteeckkkcebljmaaDoor
