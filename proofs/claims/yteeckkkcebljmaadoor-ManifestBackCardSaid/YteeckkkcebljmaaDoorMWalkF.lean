/- A set of strings, kept in a map[string]bool of the call's own. -/
import Derived.Test.YteeckkkcebljmaaDoorMWalkE
import Derived.Maps.Own
import Derived.Maps.OwnOps
import Derived.Maps.Views
namespace Go.Proofs.YteeckkkcebljmaaDoor
open Go.RowKit Go.Shelf Go.Sort Go.WideMaps Go.Maps
set_option maxRecDepth 100000
set_option linter.unusedVariables false
set_option linter.unusedSimpArgs false

theorem lawS : Keyed Tryd.prog 9 := string_keyed Tryd.underlying9
theorem zeroB (w : World) : (zeroValue 4).run Tryd.prog w = .ok (.bool false) w := by kernel_rfl
def litS (s : ByteArray) : Lit := .string s.data.toList
def memB (s : ByteArray) : List ByteArray → Bool
  | [] => false
  | x :: r => decide (s = x) || memB s r
theorem memB_iff {s : ByteArray} : ∀ {l : List ByteArray}, memB s l = true ↔ s ∈ l
  | [] => by simp [memB]
  | x :: r => by simp [memB, memB_iff (l := r)]
def setC : List ByteArray → DataW Unit
  | [] => .map []
  | s :: r => (setC r).put (litS s) (.lit (.bool true))
theorem setC_isMap : ∀ l, IsMap (setC l)
  | [] => isMap_empty
  | s :: r => (setC_isMap r).put _ _
theorem litS_inj {a b : ByteArray} (h : litS a = litS b) : a = b := by
  unfold litS at h
  injection h with h
  exact bl_inj h
theorem setC_at (s : ByteArray) : ∀ l, (setC l).atKey (litS s) (.lit (.bool false)) = .lit (.bool (memB s l))
  | [] => by simp [setC, DataW.atKey, memB]
  | x :: r => by
    by_cases h : s = x
    · subst h
      rw [setC, atKey_put_same (setC_isMap r) (by first | trivial | simp [litS, WideAt.IsKeyLit])]
      simp [memB]
    · rw [setC, atKey_put_other (fun e => h (litS_inj e)), setC_at s r]
      simp [memB, h]
def Seen (w : World) (b : Nat) (l : List ByteArray) : Prop := w.ownsMap Tryd.prog 9 (plainElem (H := Unit) Tryd.prog 4) b l.length (setC l)
theorem Seen.made (w : World) : Seen (w.alloc (.map #[] 0)) w.heap.size [] := World.ownsMap_made _ _ _ _
theorem Seen.lt {w : World} {b : Nat} {l : List ByteArray} (h : Seen w b l) : b < w.heap.size := World.ownsMap.lt h
theorem Seen.same {w w' : World} {b : Nat} {l : List ByteArray} (h : Seen w b l) (e : w'.heap[b]? = w.heap[b]?) : Seen w' b l := by
  obtain ⟨es, clock, hb, F, hs, hD⟩ := h
  exact ⟨es, clock, e.trans hb, F, hs, hD⟩
theorem Seen.below {w w' : World} {b : Nat} {l : List ByteArray} (h : Seen w b l) (hB : Below w.heap.size w w') : Seen w' b l := h.same (hB.block b h.lt)
theorem plainElem_bool_inv {v : Value} {z : DataW Unit × List MemPlace} (h : plainElem Tryd.prog 4 v = some z) : ∃ x, v = .bool x ∧ z = (.lit (.bool x), []) := by
  unfold plainElem at h
  rw [Tryd.underlying4] at h
  cases v <;> simp at h
  exact ⟨_, rfl, h.symm⟩
theorem Seen.look {w : World} {b : Nat} {l : List ByteArray} (h : Seen w b l) (s : ByteArray) (hs : s.size ≤ maxLen) : (Instr.lookup 52 (.map (some b)) (.string s) false).run Tryd.prog w = .ok (.bool (memB s l)) w := by
  obtain ⟨v, ps, hrun, hv⟩ := World.ownsMap.lookup h lawS Tryd.underlying52 (zeroB w) (plainElem_bool Tryd.underlying4 false) (keyOf_string_mk Tryd.underlying9 hs)
  obtain ⟨x, rfl, hx⟩ := plainElem_bool_inv hv
  have h1 := setC_at s l
  simp only [Prod.mk.injEq] at hx
  rw [show (Lit.string s.data.toList) = litS s from rfl, h1] at hx
  have h2 := hx.1
  injection h2 with h2
  injection h2 with h2
  rw [hrun, ← h2]
theorem Seen.put {w : World} {b : Nat} {l : List ByteArray} (h : Seen w b l) (s : ByteArray) (hs : s.size ≤ maxLen) (hl : l.length < maxLen) :
    ∃ w', (Instr.mapUpdate 52 (.map (some b)) (.string s) (.bool true)).run Tryd.prog w = .ok () w' ∧ Seen w' b (s :: l) ∧ w.grownBy w' (some b) :=
  World.ownsMap.update h lawS Tryd.underlying52 hl (keyOf_string_mk Tryd.underlying9 hs) (plainElem_bool Tryd.underlying4 true)
end Go.Proofs.YteeckkkcebljmaaDoor
