/- Arguments opened, at this program's types: values, fields, vectors, points, conditions. -/
import Derived.Test.YteoeahmfpohpeaaDoorOpenA
import Derived.Test.YteoeahmfpohpeaaDoorChecked
namespace Go.Proofs.YteoeahmfpohpeaaDoor
open Go.RowKit
set_option maxRecDepth 100000
set_option linter.unusedVariables false
set_option linter.unusedSimpArgs false

theorem open_field {H : Type} {enc : TypeId × Value → H} {P : Program} {w : World} {spare : Nat → Bool} {held : Bool} {t : TypeId} {fuel : Nat} {cs : List Value} {y : DataW H × List MemPlace} {fs : Array Field} (ht : P.underlying t = some (.struct fs)) (h : DataW.trod enc P w 0 spare held fuel t cs = some y) (hf : Fits P t y.1) :
    cs.length = P.cellsOf t ∧ ∃ n, fuel = n + 1 ∧ ∀ (i o : Nat) (u : TypeId), fs[i]?.map (fun f => (f.offset, f.type)) = some (o, u) → ∃ z, DataW.trod enc P w 0 spare held n u ((cs.drop o).take (P.cellsOf u)) = some z ∧ Fits P u z.1 := by
  obtain ⟨xs, n, hn, rfl, hl, hlen, hi⟩ := DataW.trod_struct ht h
  refine ⟨hl, n, hn, fun i o u hou => ?_⟩
  obtain ⟨f, hfi, e⟩ := Option.map_eq_some_iff.1 hou
  cases e
  have hlt : i < xs.length := by have := (Array.getElem?_eq_some_iff.1 hfi).1; omega
  refine ⟨xs[i], by rw [hi i f hfi, List.getElem?_eq_getElem hlt], Fits.field ht hf hfi (by simp [List.getElem?_map, List.getElem?_eq_getElem hlt])⟩

theorem cells_int : Tryd.prog.cellsOf 3 = 1 := by kernel_rfl
theorem cells_string : Tryd.prog.cellsOf 9 = 1 := by kernel_rfl
theorem cells_val : Tryd.prog.cellsOf 23 = 3 := by kernel_rfl
theorem cells_fld : Tryd.prog.cellsOf 48 = 4 := by kernel_rfl
theorem cells_vec : Tryd.prog.cellsOf 94 = 2 := by kernel_rfl
theorem cells_pt : Tryd.prog.cellsOf 37 = 3 := by kernel_rfl
theorem cells_cond : Tryd.prog.cellsOf 26 = 8 := by kernel_rfl
theorem cells_conds : Tryd.prog.cellsOf 24 = 1 := by kernel_rfl
theorem cells_ints : Tryd.prog.cellsOf 29 = 1 := by kernel_rfl
theorem cells_vecs : Tryd.prog.cellsOf 34 = 1 := by kernel_rfl
theorem cells_flds : Tryd.prog.cellsOf 35 = 1 := by kernel_rfl
theorem bytes_int : Tryd.prog.bytesOf 3 = 8 := by kernel_rfl
theorem bytes_fld : Tryd.prog.bytesOf 48 = 48 := by kernel_rfl
theorem bytes_vec : Tryd.prog.bytesOf 94 = 40 := by kernel_rfl
theorem bytes_pt : Tryd.prog.bytesOf 37 = 56 := by kernel_rfl
theorem bytes_cond : Tryd.prog.bytesOf 26 = 96 := by kernel_rfl

section
variable {H : Type} {enc : TypeId × Value → H} {w : World} {spare : Nat → Bool} {held : Bool} {fuel : Nat} {cs : List Value} {y : DataW H × List MemPlace}

theorem open_val (h : DataW.trod enc Tryd.prog w 0 spare held fuel 23 cs = some y) (hf : Fits Tryd.prog 23 y.1) : ∃ x, RVal x cs := by
  obtain ⟨hl, n, rfl, hF⟩ := open_field Tryd.underlying23 h hf
  obtain ⟨z0, h0, _⟩ := hF 0 0 3 rfl
  obtain ⟨z1, h1, _⟩ := hF 1 1 3 rfl
  obtain ⟨z2, h2, _⟩ := hF 2 2 9 rfl
  rw [cells_val] at hl
  match cs, hl with
  | [a, b, c], _ =>
    simp only [cells_int, cells_string, List.drop_zero, List.drop_succ_cons, List.take_succ_cons, List.take_zero] at h0 h1 h2
    obtain ⟨k, e0, _⟩ := DataW.trod_int Tryd.underlying3 h0
    obtain ⟨m, e1, _⟩ := DataW.trod_int Tryd.underlying3 h1
    obtain ⟨s, e2, _⟩ := DataW.trod_string Tryd.underlying9 h2
    cases e0; cases e1; cases e2
    exact ⟨⟨k, m, s⟩, rfl⟩
theorem open_fld (h : DataW.trod enc Tryd.prog w 0 spare held fuel 48 cs = some y) (hf : Fits Tryd.prog 48 y.1) : ∃ x, RFld x cs := by
  obtain ⟨hl, n, rfl, hF⟩ := open_field Tryd.underlying48 h hf
  obtain ⟨z0, h0, _⟩ := hF 0 0 9 rfl
  obtain ⟨z1, h1, f1⟩ := hF 1 1 23 rfl
  rw [cells_fld] at hl
  match cs, hl with
  | [a, b, c, d], _ =>
    simp only [cells_val, cells_string, List.drop_zero, List.drop_succ_cons, List.take_succ_cons, List.take_zero] at h0 h1
    obtain ⟨s, e0, _⟩ := DataW.trod_string Tryd.underlying9 h0
    obtain ⟨v, e1⟩ := open_val h1 f1
    cases e0
    unfold RVal at e1
    cases e1
    exact ⟨⟨s, v⟩, rfl⟩
theorem open_ints (h : DataW.trod enc Tryd.prog w 0 spare held fuel 29 cs = some y) (hf : Fits Tryd.prog 29 y.1) : ∃ (xs : List Int) (v : Value), cs = [v] ∧ RSl RI 1 (hp w) xs v ∧ xs.length * 8 ≤ reachBytes := by
  obtain ⟨xs, v, e, hr, hb⟩ := open_sl (R := RI) Tryd.underlying29 cells_int (by decide) (by rw [bytes_int]; decide) (fun n _ cs y h _ => by
    obtain ⟨k, e, _⟩ := DataW.trod_int Tryd.underlying3 h
    exact ⟨k, e⟩) h hf
  rw [bytes_int] at hb
  exact ⟨xs, v, e, hr, hb⟩
theorem open_vec (h : DataW.trod enc Tryd.prog w 0 spare held fuel 94 cs = some y) (hf : Fits Tryd.prog 94 y.1) : ∃ x, RVc (hp w) x cs := by
  obtain ⟨hl, n, rfl, hF⟩ := open_field Tryd.underlying94 h hf
  obtain ⟨z0, h0, _⟩ := hF 0 0 9 rfl
  obtain ⟨z1, h1, f1⟩ := hF 1 1 29 rfl
  rw [cells_vec] at hl
  match cs, hl with
  | [a, b], _ =>
    simp only [cells_ints, cells_string, List.drop_zero, List.drop_succ_cons, List.take_succ_cons, List.take_zero] at h0 h1
    obtain ⟨s, e0, _⟩ := DataW.trod_string Tryd.underlying9 h0
    obtain ⟨xs, v, e1, hr, _⟩ := open_ints h1 f1
    cases e0; cases e1
    exact ⟨⟨s, xs⟩, _, rfl, hr⟩
theorem open_pt (h : DataW.trod enc Tryd.prog w 0 spare held fuel 37 cs = some y) (hf : Fits Tryd.prog 37 y.1) : ∃ x, RPt (hp w) x cs := by
  obtain ⟨hl, n, rfl, hF⟩ := open_field Tryd.underlying37 h hf
  obtain ⟨z0, h0, _⟩ := hF 0 0 3 rfl
  obtain ⟨z1, h1, f1⟩ := hF 1 1 34 rfl
  obtain ⟨z2, h2, f2⟩ := hF 2 2 35 rfl
  rw [cells_pt] at hl
  match cs, hl with
  | [a, b, c], _ =>
    simp only [cells_int, cells_vecs, cells_flds, List.drop_zero, List.drop_succ_cons, List.take_succ_cons, List.take_zero] at h0 h1 h2
    obtain ⟨k, e0, _⟩ := DataW.trod_int Tryd.underlying3 h0
    obtain ⟨vs, v, e1, hv, _⟩ := open_sl (R := RVc (hp w)) Tryd.underlying34 cells_vec (by decide) (by rw [bytes_vec]; decide) (fun n _ cs y h f => open_vec h f) h1 f1
    obtain ⟨fl, f, e2, hfl, _⟩ := open_sl (R := RFld) Tryd.underlying35 cells_fld (by decide) (by rw [bytes_fld]; decide) (fun n _ cs y h f => open_fld h f) h2 f2
    cases e0; cases e1; cases e2
    exact ⟨⟨k, vs, fl⟩, _, _, rfl, hv, hfl⟩
theorem open_pts (h : DataW.trod enc Tryd.prog w 0 spare held fuel 27 cs = some y) (hf : Fits Tryd.prog 27 y.1) : ∃ (xs : List Pt) (v : Value), cs = [v] ∧ RSl (RPt (hp w)) 3 (hp w) xs v ∧ xs.length * 56 ≤ reachBytes := by
  obtain ⟨xs, v, e, hr, hb⟩ := open_sl (R := RPt (hp w)) Tryd.underlying27 cells_pt (by decide) (by rw [bytes_pt]; decide) (fun n _ cs y h f => open_pt h f) h hf
  rw [bytes_pt] at hb
  exact ⟨xs, v, e, hr, hb⟩
end

theorem RC.up {H : PH} : ∀ {n : Nat} {c : Cond} {cs : List Value}, RC H n c cs → RC H (n + 1) c cs
  | 0, _, _, h => h.elim
  | n + 1, .mk k nm v lo hi l, cs, h => by
    obtain ⟨L, e, hL⟩ := h
    exact ⟨L, e, hL.mono (Le.refl _) (fun _ _ _ h => RC.up h)⟩
theorem RC.upTo {H : PH} {n m : Nat} (hnm : n ≤ m) {c : Cond} {cs : List Value} (h : RC H n c cs) : RC H m c cs := by
  induction hnm with
  | refl => exact h
  | step _ ih => exact ih.up

theorem open_cond {H : Type} {enc : TypeId × Value → H} {w : World} {spare : Nat → Bool} {held : Bool} : ∀ (fuel : Nat) (cs : List Value) (y : DataW H × List MemPlace), DataW.trod enc Tryd.prog w 0 spare held fuel 26 cs = some y → Fits Tryd.prog 26 y.1 → ∃ c, RC (hp w) fuel c cs := by
  intro fuel
  induction fuel using Nat.strongRecOn with
  | _ fuel ih =>
  intro cs y h hf
  obtain ⟨hl, n, rfl, hF⟩ := open_field Tryd.underlying26 h hf
  obtain ⟨z0, h0, _⟩ := hF 0 0 3 rfl
  obtain ⟨z1, h1, _⟩ := hF 1 1 9 rfl
  obtain ⟨z2, h2, f2⟩ := hF 2 2 23 rfl
  obtain ⟨z3, h3, _⟩ := hF 3 5 3 rfl
  obtain ⟨z4, h4, _⟩ := hF 4 6 3 rfl
  obtain ⟨z5, h5, f5⟩ := hF 5 7 24 rfl
  rw [cells_cond] at hl
  match cs, hl with
  | [a, b, c, d, e, f, g, i], _ =>
    simp only [cells_int, cells_string, cells_val, cells_conds, List.drop_zero, List.drop_succ_cons, List.take_succ_cons, List.take_zero] at h0 h1 h2 h3 h4 h5
    obtain ⟨k, e0, _⟩ := DataW.trod_int Tryd.underlying3 h0
    obtain ⟨s, e1, _⟩ := DataW.trod_string Tryd.underlying9 h1
    obtain ⟨v, e2⟩ := open_val h2 f2
    obtain ⟨lo, e3, _⟩ := DataW.trod_int Tryd.underlying3 h3
    obtain ⟨hi, e4, _⟩ := DataW.trod_int Tryd.underlying3 h4
    obtain ⟨l, L, e5, hL, _⟩ := open_sl (R := RC (hp w) n) Tryd.underlying24 cells_cond (by decide) (by rw [bytes_cond]; decide) (fun m hm cs y h f => by
      obtain ⟨c, hc⟩ := ih m (by omega) cs y h f
      exact ⟨c, hc.upTo (by omega)⟩) h5 f5
    unfold RVal at e2
    cases e0; cases e1; cases e2; cases e3; cases e4; cases e5
    exact ⟨.mk k s v lo hi l, _, rfl, hL⟩
end Go.Proofs.YteoeahmfpohpeaaDoor
