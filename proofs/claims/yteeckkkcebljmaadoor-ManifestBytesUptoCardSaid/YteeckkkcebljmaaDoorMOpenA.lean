/- Arguments opened: conditions and points as the form reads them, as the walks' contracts want them. -/
import Derived.Test.YteeckkkcebljmaaDoorLK
import Derived.Test.YteeckkkcebljmaaDoorLA
import Derived.OpenShut
import Derived.SizedLaws
namespace Go.Proofs.YteeckkkcebljmaaDoor
open Go.RowKit
set_option maxRecDepth 100000
set_option linter.unusedVariables false
set_option linter.unusedSimpArgs false

/-- All that a reading weighs is within the form's reach. -/
def Fits {H : Type} (P : Program) (t : TypeId) (d : DataW H) : Prop := ∀ m ∈ d.weights P t, m ≤ reachBytes
theorem Fits.each {H : Type} {P : Program} {ts : List TypeId} {ds : List (DataW H)} (h : ∀ m ∈ DataW.weightsEach P ts ds, m ≤ reachBytes) {j : Nat} {t : TypeId} {d : DataW H} (ht : ts[j]? = some t) (hd : ds[j]? = some d) : Fits P t d :=
  fun m hm => h m (DataW.weights_mem_each ht hd m hm)
theorem Fits.field {H : Type} {P : Program} {t : TypeId} {fs : Array Field} {ds : List (DataW H)} (hu : P.underlying t = some (.struct fs)) (h : Fits P t (.agg ds)) {j : Nat} {f : Field} {d : DataW H} (hf : fs[j]? = some f) (hd : ds[j]? = some d) : Fits P f.type d := by
  refine Fits.each (ts := fs.toList.map (·.type)) (ds := ds) ?_ (j := j) (by simp [hf]) hd
  intro m hm
  exact h m (by simpa [DataW.weights, hu] using hm)
theorem weightsAll_mem {H : Type} {P : Program} {e : TypeId} : ∀ {ds : List (DataW H)} {d : DataW H}, d ∈ ds → ∀ m ∈ d.weights P e, m ∈ DataW.weightsAll P e ds
  | [], _, h, _, _ => by simp at h
  | x :: r, d, h, m, hm => by
    simp only [DataW.weightsAll, List.mem_append]
    rcases List.mem_cons.1 h with rfl | h
    · exact .inl hm
    · exact .inr (weightsAll_mem h m hm)
theorem Fits.elem {H : Type} {P : Program} {t e : TypeId} {elems spare : List (DataW H)} (hu : P.underlying t = some (.slice e)) (h : Fits P t (.slice elems spare)) {d : DataW H} (hd : d ∈ elems) : Fits P e d :=
  fun m hm => h m (by simp only [DataW.weights, hu, List.mem_cons, List.mem_append]; exact .inr (.inl (weightsAll_mem hd m hm)))
theorem Fits.len {H : Type} {P : Program} {t e : TypeId} {elems spare : List (DataW H)} (hu : P.underlying t = some (.slice e)) (h : Fits P t (.slice elems spare)) : (elems.length + spare.length) * P.bytesOf e ≤ reachBytes :=
  h _ (by simp only [DataW.weights, hu, List.mem_cons, true_or])

theorem list_of {α : Type} {Q : Nat → α → Prop} : ∀ n : Nat, (∀ j, j < n → ∃ x, Q j x) → ∃ xs : List α, xs.length = n ∧ ∀ j x, xs[j]? = some x → Q j x
  | 0, _ => ⟨[], rfl, fun j x h => by simp at h⟩
  | n + 1, h => by
    obtain ⟨xs, h1, h2⟩ := list_of n (fun j hj => h j (by omega))
    obtain ⟨y, hy⟩ := h n (by omega)
    refine ⟨xs ++ [y], by simp [h1], fun j x hx => ?_⟩
    rcases Nat.lt_or_ge j n with hj | hj
    · rw [List.getElem?_append_left (by omega)] at hx
      exact h2 j x hx
    · rw [List.getElem?_append_right (by omega)] at hx
      have hjn : j - xs.length = 0 := by
        have := (List.getElem?_eq_some_iff.1 hx).1
        simp at this
        omega
      rw [hjn] at hx
      simp at hx
      obtain rfl : j = n := by omega
      exact hx ▸ hy

section
variable {H : Type} {enc : TypeId × Value → H} {P : Program} {w : World} {spare : Nat → Bool} {held : Bool}

theorem cellH_of {b o : Nat} {v : Value} (h : w.cell? ⟨b, o, none⟩ = some v) : cellH (hp w) b o = some v := by
  unfold World.cell? at h
  unfold cellH hp
  revert h
  cases w.heap[b]? with
  | none => simp
  | some ob => cases ob <;> simp

/-- A slice, opened: its elements. -/
theorem open_sl {α : Type} {R : α → List Value → Prop} {t e : TypeId} {sz fuel : Nat} {cs : List Value} {y : DataW H × List MemPlace} (ht : P.underlying t = some (.slice e)) (hsz : P.cellsOf e = sz) (h0 : 0 < sz) (hby : 0 < P.bytesOf e)
    (hel : ∀ n, n < fuel → ∀ cs y, DataW.trod enc P w 0 spare held n e cs = some y → Fits P e y.1 → ∃ x, R x cs) (h : DataW.trod enc P w 0 spare held fuel t cs = some y) (hf : Fits P t y.1) :
    ∃ (xs : List α) (v : Value), cs = [v] ∧ RSl R sz (hp w) xs v ∧ xs.length * P.bytesOf e ≤ reachBytes := by
  rcases DataW.trod_slice ht h with ⟨rfl, _⟩ | ⟨a, len, cap, elems, rest, n, hn, rfl, rfl, _, hl, hm, hlen, hi, _, _⟩
  · exact ⟨[], _, rfl, ⟨none, 0, rfl, by simp, Sl.nil _ _ _ _⟩, by simp⟩
  · have hle := Fits.len ht hf
    simp only [List.length_map] at hle
    rw [hsz] at hi
    have hq : ∀ j, j < len → ∃ x : α, ∃ c, R x c ∧ c.length = sz ∧ ∀ i u, c[i]? = some u → w.cell? ((a.add (j * sz)).add i) = some u := by
      intro j hj
      have h1 := hi j hj
      rw [List.getElem?_eq_getElem (by omega)] at h1
      obtain ⟨c, hc, h2⟩ := Option.bind_eq_some_iff.1 h1
      obtain ⟨_, hcl, hcc⟩ := World.cells?_some hc
      obtain ⟨x, hx⟩ := hel n (by omega) c _ h2 (Fits.elem ht hf (List.mem_map_of_mem (List.getElem_mem _)))
      exact ⟨x, c, hx, hcl, fun i u hu => by
        have : i < sz := by have := (List.getElem?_eq_some_iff.1 hu).1; omega
        rw [hcc i this, hu]⟩
    obtain ⟨xs, hx1, hx2⟩ := list_of len hq
    have hbb : xs.length * P.bytesOf e ≤ reachBytes := by
      refine Nat.le_trans (Nat.mul_le_mul_right _ ?_) hle
      omega
    have hbx : xs.length ≤ 140737488355328 := by
      have h3 : xs.length * 1 ≤ xs.length * P.bytesOf e := Nat.mul_le_mul_left _ hby
      have := reachBytes_lt
      omega
    refine ⟨xs, _, rfl, ⟨some a, cap, by rw [hx1], by omega, hbx, fun hpos => ?_⟩, hbb⟩
    obtain ⟨b, off, spot⟩ := a
    have hspot : spot = none := by
      obtain ⟨x, c, _, hcl, hcc⟩ := hq 0 (by omega)
      have h9 := World.cell?_spot (hcc 0 c[0] (by simp [List.getElem?_eq_getElem (show 0 < c.length by omega)]))
      simpa [Addr.add] using h9
    subst hspot
    refine ⟨b, off, rfl, fun j x hx => ?_⟩
    obtain ⟨c, h1, h2, h3⟩ := hx2 j x hx
    refine ⟨c, h1, h2, fun i u hu => cellH_of ?_⟩
    have := h3 i u hu
    rwa [add_addr, add_addr] at this
end
end Go.Proofs.YteeckkkcebljmaaDoor
