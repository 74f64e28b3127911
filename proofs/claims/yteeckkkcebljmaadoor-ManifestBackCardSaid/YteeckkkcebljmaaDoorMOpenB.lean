/- Arguments opened, at this program's types: manifests, strings, numbers. -/
import Derived.Test.YteeckkkcebljmaaDoorMOpenA
import Derived.Test.YteeckkkcebljmaaDoorChecked
import Derived.Test.YteeckkkcebljmaaDoorMWalkP
namespace Go.Proofs.YteeckkkcebljmaaDoor
open Go.RowKit
set_option maxRecDepth 100000
set_option linter.unusedVariables false
set_option linter.unusedSimpArgs false

theorem open_field {H : Type} {enc : TypeId × Value → H} {P : Program} {w : World} {spare : Nat → Bool} {held : Bool} {t : TypeId} {fuel : Nat} {cs : List Value} {y : DataW H × List MemPlace} {fs : Array Field} (ht : P.underlying t = some (.struct fs)) (h : DataW.trod enc P w 0 spare held fuel t cs = some y) (hf : Fits P t y.1) :
    cs.length = P.cellsOf t ∧ ∃ n, fuel = n + 1 ∧ ∀ (i o : Nat) (u : TypeId), fs[i]?.map (fun f => (f.offset, f.type)) = some (o, u) → ∃ z, DataW.trod enc P w 0 spare held n u ((cs.drop o).take (P.cellsOf u)) = some z ∧ Fits P u z.1 := by
  obtain ⟨xs, n, hn, rfl, hl, hlen, hi⟩ := DataW.trod_struct ht h
  refine ⟨hl, n, hn, fun i o u hou => ?_⟩
  obtain ⟨f, hfi, e⟩ := Option.map_eq_some_iff.1 hou
  cases e
  have hlt : i < xs.length := by have := (Array.getElem?_eq_some_iff.1 hfi).1; omega
  refine ⟨xs[i], by rw [hi i f hfi, List.getElem?_eq_getElem hlt], Fits.field ht hf hfi (by simp [List.getElem?_map, List.getElem?_eq_getElem hlt])⟩

theorem cells_int : Tryd.prog.cellsOf 3 = 1 := by kernel_rfl
theorem cells_string : Tryd.prog.cellsOf 9 = 1 := by kernel_rfl
theorem cells_man : Tryd.prog.cellsOf 24 = 4 := by kernel_rfl
theorem cells_strs : Tryd.prog.cellsOf 22 = 1 := by kernel_rfl
theorem bytes_str : Tryd.prog.bytesOf 9 = 16 := by kernel_rfl

section
variable {H : Type} {enc : TypeId × Value → H} {w : World} {spare : Nat → Bool} {held : Bool} {fuel : Nat} {cs : List Value} {y : DataW H × List MemPlace}
/-- A string's letters are within the reach. -/
theorem fits_string {s : List UInt8} (hf : Fits (H := H) Tryd.prog 9 (.lit (.string s))) : s.length ≤ reachBytes := hf _ (by simp [DataW.weights])
theorem open_str (h : DataW.trod enc Tryd.prog w 0 spare held fuel 9 cs = some y) (hf : Fits Tryd.prog 9 y.1) : ∃ s : ByteArray, cs = [.string s] ∧ s.size ≤ reachBytes ∧ y.1 = .lit (.string s.data.toList) := by
  obtain ⟨s, e, ey, _⟩ := DataW.trod_string Tryd.underlying9 h
  rw [ey] at hf
  have := fits_string hf
  rw [Array.length_toList] at this
  exact ⟨s, e, this, by rw [ey]⟩
/-- Strings, none of which is greater than the reach. -/
def RSB : ByteArray → List Value → Prop := fun x cs => cs = [.string x] ∧ x.size ≤ reachBytes
theorem open_man (h : DataW.trod enc Tryd.prog w 0 spare held fuel 24 cs = some y) (hf : Fits Tryd.prog 24 y.1) :
    ∃ (m : Man) (A : Option Addr) (c : Nat), cs = [.slice A m.segs.length c, .string m.log, .int .i64 m.next, .int .i64 m.seq] ∧ Sl RS 1 (hp w) A m.segs ∧ m.log.size ≤ reachBytes ∧ ∀ s ∈ m.segs, s.size ≤ reachBytes := by
  obtain ⟨hl, n, rfl, hF⟩ := open_field Tryd.underlying24 h hf
  obtain ⟨z0, h0, f0⟩ := hF 0 0 22 rfl
  obtain ⟨z1, h1, f1⟩ := hF 1 1 9 rfl
  obtain ⟨z2, h2, _⟩ := hF 2 2 3 rfl
  obtain ⟨z3, h3, _⟩ := hF 3 3 3 rfl
  rw [cells_man] at hl
  match cs, hl with
  | [a, b, c, d], _ =>
    simp only [cells_int, cells_string, cells_strs, List.drop_zero, List.drop_succ_cons, List.take_succ_cons, List.take_zero] at h0 h1 h2 h3
    obtain ⟨xs, v, e0, ⟨A, cp, e4, _, hs⟩, _⟩ := open_sl (R := RSB) Tryd.underlying22 cells_string (by decide) (by rw [bytes_str]; decide) (fun n _ cs y h f => by
      obtain ⟨s, e, hb, _⟩ := open_str h f
      exact ⟨s, e, hb⟩) h0 f0
    obtain ⟨s, e1, hsz, _⟩ := open_str h1 f1
    obtain ⟨k, e2, _⟩ := DataW.trod_int Tryd.underlying3 h2
    obtain ⟨q, e3, _⟩ := DataW.trod_int Tryd.underlying3 h3
    cases e0; cases e1; cases e2; cases e3
    subst e4
    refine ⟨⟨xs, s, k, q⟩, A, cp, rfl, hs.mono (Le.refl _) (fun x cs _ h => h.1), hsz, fun x hx => ?_⟩
    obtain ⟨j, hj, rfl⟩ := List.getElem_of_mem hx
    obtain ⟨b, off, cs, _, hR, _⟩ := hs.get hj
    exact hR.2
end
end Go.Proofs.YteeckkkcebljmaaDoor
