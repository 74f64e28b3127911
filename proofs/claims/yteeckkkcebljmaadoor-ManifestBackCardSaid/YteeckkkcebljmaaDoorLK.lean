/- A small library: partial heaps, what slices read as in them. -/
import Derived.Below
import Derived.WalkKit
import Derived.Deep.Draws
import Derived.Lib.SlicesS
namespace Go.Proofs.YteeckkkcebljmaaDoor
open Go.RowKit

/-- A partial heap: blocks that are known. -/
abbrev PH := Nat → Option Obj
def cellH (H : PH) (b o : Nat) : Option Value := match H b with | some (.cells c _ _) => c[o]? | _ => none
/-- The world holds what the partial heap says. -/
def In (H : PH) (w : World) : Prop := ∀ b o, H b = some o → w.heap[b]? = some o
theorem In.lt {H : PH} {w : World} (hI : In H w) {b : Nat} {o : Obj} (h : H b = some o) : b < w.heap.size := (Array.getElem?_eq_some_iff.1 (hI b o h)).1
theorem In.below {H : PH} {w W : World} (hI : In H w) (hB : Below w.heap.size w W) : In H W := fun b o h => by rw [hB.block b (hI.lt h)]; exact hI b o h
theorem In.cell {H : PH} {w : World} {b o : Nat} {v : Value} (hI : In H w) (h : cellH H b o = some v) : w.cell? ⟨b, o, none⟩ = some v := by
  unfold cellH at h
  split at h
  · rename_i c e fr hb
    have := hI b _ hb
    simp [World.cell?, this, h]
  · cases h
theorem cellH_lt {H : PH} {w : World} {b o : Nat} {v : Value} (hI : In H w) (h : cellH H b o = some v) : b < w.heap.size := by
  unfold cellH at h
  split at h
  · rename_i c e fr hb; exact hI.lt hb
  · cases h
theorem rdW {H : PH} {w W : World} {b o : Nat} {v : Value} (hI : In H w) (hB : Below w.heap.size w W) (h : cellH H b o = some v) : W.cell? ⟨b, o, none⟩ = some v := (hI.below hB).cell h
theorem rdW0 {H : PH} {w W : World} {b o : Nat} {v : Value} (hI : In H w) (hB : Below w.heap.size w W) (h : cellH H b (o + 0) = some v) : W.cell? ⟨b, o, none⟩ = some v := (hI.below hB).cell h
/-- What lies in the world. -/
def hp (w : World) : PH := fun b => w.heap[b]?
theorem In.hp (w : World) : In (hp w) w := fun _ _ h => h
def Le (H H' : PH) : Prop := ∀ b o, H b = some o → H' b = some o
theorem Le.refl (H : PH) : Le H H := fun _ _ h => h
theorem Le.trans {A B C : PH} (h : Le A B) (k : Le B C) : Le A C := fun b o e => k b o (h b o e)
theorem Le.cell {H H' : PH} (h : Le H H') {b o : Nat} {v : Value} (hc : cellH H b o = some v) : cellH H' b o = some v := by
  unfold cellH at *
  split at hc
  · rename_i c e fr hb; rw [h _ _ hb]; exact hc
  · cases hc
/-- What was known, and what has been made since w. -/
def plus (H : PH) (w w' : World) : PH := fun b => if b < w.heap.size then H b else w'.heap[b]?
theorem Le.plus {H : PH} {w : World} (hI : In H w) (w' : World) : Le H (plus H w w') := fun b o h => by simp [Proofs.YteeckkkcebljmaaDoor.plus, hI.lt h, h]
theorem In.plus {H : PH} {w w' : World} (hI : In H w) (hB : Below w.heap.size w w') : In (plus H w w') w' := fun b o h => by
  unfold Proofs.YteeckkkcebljmaaDoor.plus at h
  split at h
  · rename_i hlt; rw [hB.block b hlt]; exact hI b o h
  · exact h

/-- Below, step by step. -/
theorem below_then {B : Nat} {w w1 w2 : World} (h : Below B w w1) (hB : B ≤ w1.heap.size) (k : Below w1.heap.size w1 w2) : Below B w w2 :=
  h.trans ⟨k.os, k.tape, k.output, k.size, fun i hi => k.block i (Nat.lt_of_lt_of_le hi hB)⟩
theorem below_drewN {B : Nat} {w W : World} (h : Below B w W) (n : Nat) : Below B w (W.drewN n) := ⟨h.os, h.tape, h.output, h.size, h.block⟩
theorem below_step {w W w1 : World} (k : Below W.heap.size W w1) (h : Below w.heap.size w W) : Below w.heap.size w w1 := below_then h h.size k
theorem below_allocS {w W : World} (h : Below w.heap.size w W) (o : Obj) : Below w.heap.size w (W.alloc o) := h.alloc h.size o
theorem bcell {W w1 : World} (hb : Below W.heap.size W w1) : (∀ b o, b < W.heap.size → w1.cell? ⟨b, o, none⟩ = W.cell? ⟨b, o, none⟩) ∧ (∀ b o, b < W.heap.size → w1.frozen? ⟨b, o, none⟩ = W.frozen? ⟨b, o, none⟩) :=
  ⟨fun b o h => hb.cell (p := ⟨b, o, none⟩) h, fun b o h => hb.frozen (p := ⟨b, o, none⟩) h⟩

theorem cellN {w : World} {cs : Array Value} {t : TypeId} {fr : Nat × Nat} (i : Nat) {v : Value} (h : cs[i]? = some v) : (w.alloc (.cells cs t fr)).cell? ⟨w.heap.size, i, none⟩ = some v := by
  have : (w.alloc (.cells cs t fr)).heap[w.heap.size]? = some (.cells cs t fr) := heap_alloc_new w _
  unfold World.cell?
  rw [this]
  exact h
theorem cellP {w : World} {o : Obj} {b i : Nat} {v : Value} (h : w.cell? ⟨b, i, none⟩ = some v) : (w.alloc o).cell? ⟨b, i, none⟩ = some v := by
  rw [World.cell?_alloc_past _ _ _ (World.block_lt_of_cell? w _ h)]; exact h
theorem beqS (a b : ByteArray) : (a.toList == b.toList) = decide (a = b) := by
  rw [Bool.eq_iff_iff, Lib.bytes_beq_iff, decide_eq_true_iff]
/-- A slice's elements. R: what an element's cells are; sz: how many. -/
def Sl {α : Type} (R : α → List Value → Prop) (sz : Nat) (H : PH) (A : Option Addr) (xs : List α) : Prop :=
  xs.length ≤ 140737488355328 ∧ (0 < xs.length → ∃ b off, A = some ⟨b, off, none⟩ ∧ ∀ j x, xs[j]? = some x → ∃ cs, R x cs ∧ cs.length = sz ∧ ∀ i u, cs[i]? = some u → cellH H b (off + j * sz + i) = some u)
theorem Sl.nil {α : Type} (R : α → List Value → Prop) (sz : Nat) (H : PH) (A : Option Addr) : Sl R sz H A [] := ⟨by simp, fun h => by simp at h⟩
theorem Sl.le {α : Type} {R : α → List Value → Prop} {sz : Nat} {H : PH} {A : Option Addr} {xs : List α} (h : Sl R sz H A xs) : xs.length ≤ 9223372036854775807 := by have := h.1; omega
theorem Sl.get {α : Type} {R : α → List Value → Prop} {sz : Nat} {H : PH} {A : Option Addr} {xs : List α} (h : Sl R sz H A xs) {j : Nat} (hj : j < xs.length) :
    ∃ b off cs, A = some ⟨b, off, none⟩ ∧ R xs[j] cs ∧ ∀ i u, cs[i]? = some u → cellH H b (off + j * sz + i) = some u := by
  obtain ⟨b, off, e, hc⟩ := h.2 (by omega)
  obtain ⟨cs, h1, _, h3⟩ := hc j xs[j] (by simp [hj])
  exact ⟨b, off, cs, e, h1, h3⟩
theorem Sl.mono {α : Type} {R R' : α → List Value → Prop} {sz : Nat} {H H' : PH} {A : Option Addr} {xs : List α} (h : Sl R sz H A xs) (hle : Le H H') (hR : ∀ x cs, x ∈ xs → R x cs → R' x cs) : Sl R' sz H' A xs := by
  refine ⟨h.1, fun h0 => ?_⟩
  obtain ⟨b, off, e, hc⟩ := h.2 h0
  refine ⟨b, off, e, fun j x hx => ?_⟩
  obtain ⟨cs, h1, h2, h3⟩ := hc j x hx
  exact ⟨cs, hR x cs (List.mem_of_getElem? hx) h1, h2, fun i u hu => hle.cell (h3 i u hu)⟩
/-- A cell that holds a slice. -/
def RSl {α : Type} (R : α → List Value → Prop) (sz : Nat) (H : PH) (xs : List α) (v : Value) : Prop :=
  ∃ A c, v = .slice A xs.length c ∧ xs.length ≤ c ∧ Sl R sz H A xs
theorem RSl.mono {α : Type} {R R' : α → List Value → Prop} {sz : Nat} {H H' : PH} {v : Value} {xs : List α} (h : RSl R sz H xs v) (hle : Le H H') (hR : ∀ x cs, x ∈ xs → R x cs → R' x cs) : RSl R' sz H' xs v := by
  obtain ⟨A, c, e, hl, hs⟩ := h
  exact ⟨A, c, e, hl, hs.mono hle hR⟩
theorem RSl.one {α : Type} {R : α → List Value → Prop} {sz : Nat} {H : PH} {v : Value} {xs : List α} (h : RSl R sz H xs v) : v.oneCell' = true := by
  obtain ⟨A, c, rfl, _⟩ := h; rfl
/-- Elements that are one cell each. -/
def R1 {α : Type} (enc : α → Value) : α → List Value → Prop := fun x cs => cs = [enc x]
abbrev RI : Int → List Value → Prop := R1 (Value.int .i64)
abbrev RS : ByteArray → List Value → Prop := R1 Value.string
theorem Sl.get1 {α : Type} {enc : α → Value} {H : PH} {A : Option Addr} {xs : List α} (h : Sl (R1 enc) 1 H A xs) {j : Nat} (hj : j < xs.length) :
    ∃ b off, A = some ⟨b, off, none⟩ ∧ cellH H b (off + j) = some (enc xs[j]) := by
  obtain ⟨b, off, cs, e, h1, h2⟩ := h.get hj
  refine ⟨b, off, e, ?_⟩
  have := h2 0 (enc xs[j]) (by rw [h1]; rfl)
  simpa using this

/-- A block of the call's own: its cells. -/
def Blk (W : World) (b : Nat) (cs : List Value) : Prop := ∃ t, W.heap[b]? = some (.cells cs.toArray t (0, 0))
theorem Blk.new (W : World) (cs : List Value) (t : TypeId) : Blk (W.alloc (.cells cs.toArray t)) W.heap.size cs := ⟨t, heap_alloc_new W _⟩
theorem Blk.lt {W : World} {b : Nat} {cs : List Value} (h : Blk W b cs) : b < W.heap.size := by obtain ⟨t, h⟩ := h; exact (Array.getElem?_eq_some_iff.1 h).1
theorem Blk.alloc {W : World} {b : Nat} {cs : List Value} (h : Blk W b cs) (o : Obj) : Blk (W.alloc o) b cs := by
  have := h.lt
  obtain ⟨t, h⟩ := h
  exact ⟨t, by rw [Below.heap_alloc W o b this]; exact h⟩
theorem Blk.below {W W' : World} {b : Nat} {cs : List Value} (h : Blk W b cs) (hB : Below W.heap.size W W') : Blk W' b cs := by
  have := h.lt
  obtain ⟨t, h⟩ := h
  exact ⟨t, by rw [hB.block b this]; exact h⟩
theorem Blk.drew {W : World} {b : Nat} {cs : List Value} (h : Blk W b cs) : Blk W.drew b cs := h
theorem Blk.cell {W : World} {b : Nat} {cs : List Value} (h : Blk W b cs) (i : Nat) {v : Value} (hv : cs[i]? = some v) : W.cell? ⟨b, i, none⟩ = some v := by
  obtain ⟨t, h⟩ := h
  unfold World.cell?
  rw [h]
  simpa using hv
theorem Blk.frozen {W : World} {b : Nat} {cs : List Value} (h : Blk W b cs) (i : Nat) : W.frozen? ⟨b, i, none⟩ = false := by
  obtain ⟨t, h⟩ := h
  unfold World.frozen?
  rw [h]
  simp
theorem Blk.set {W : World} {b : Nat} {cs : List Value} (h : Blk W b cs) (i : Nat) (v : Value) : Blk (W.setCell ⟨b, i, none⟩ v) b (cs.set i v) := by
  obtain ⟨t, h⟩ := h
  refine ⟨t, ?_⟩
  simp only [World.setCell, Array.getElem?_modify, if_true, h, Option.map_some]
  simp
theorem Blk.far {W : World} {b : Nat} {cs : List Value} (h : Blk W b cs) {a : Addr} (ha : b ≠ a.block) (v : Value) : Blk (W.setCell a v) b cs := by
  obtain ⟨t, h⟩ := h
  exact ⟨t, by rw [Below.heap_setCell W a v b ha]; exact h⟩
/-- A whole block of elements of one cell. -/
theorem Sl.block1 {α : Type} {enc : α → Value} {H : PH} {b : Nat} {cur : Array Value} {e : TypeId} {fr : Nat × Nat} {xs : List α} (hH : H b = some (.cells cur e fr)) (hl : xs.length ≤ 140737488355328) (hx : cur = (xs.map enc).toArray) : Sl (R1 enc) 1 H (some ⟨b, 0, none⟩) xs := by
  refine ⟨hl, fun _ => ⟨b, 0, rfl, fun j x hj => ⟨[enc x], rfl, rfl, fun i u hu => ?_⟩⟩⟩
  obtain rfl : i = 0 := by have := (List.getElem?_eq_some_iff.1 hu).1; simp at this; omega
  simp at hu
  subst hu
  subst hx
  simp [cellH, hH, hj]
theorem Sl.new1 {α : Type} {enc : α → Value} (W : World) (e : TypeId) (xs : List α) (hl : xs.length ≤ 140737488355328) : Sl (R1 enc) 1 (hp (W.alloc (.cells (xs.map enc).toArray e))) (some ⟨W.heap.size, 0, none⟩) xs :=
  Sl.block1 (heap_alloc_new W _) hl rfl
/-- A row of the call's own reads as what has been made. -/
theorem own_Sl {α : Type} {R : α → List Value → Prop} {sz : Nat} {H : PH} {w w' : World} {base n : Nat} {e : TypeId} {v : Value} {xs : List α} {cs : List Value}
    (h : w'.ownsRow base e sz v n cs) (hb : w.heap.size ≤ base) (hn : xs.length = n) (hm : n ≤ 140737488355328) (hcs : ∀ j x, xs[j]? = some x → ∃ c, R x c ∧ c.length = sz ∧ ∀ i u, c[i]? = some u → cs[j * sz + i]? = some u) : RSl R sz (plus H w w') xs v := by
  rcases h.2 with ⟨rfl, h0⟩ | ⟨g, cap, cur, rfl, hg, hh, hc, hcm, hsz, htake⟩
  · obtain rfl : xs = [] := List.eq_nil_of_length_eq_zero (by omega)
    exact ⟨none, 0, rfl, by simp, Sl.nil _ _ _ _⟩
  · refine ⟨some ⟨g, 0, none⟩, cap, by rw [hn], by omega, by omega, fun _ => ⟨g, 0, rfl, fun j x hx => ?_⟩⟩
    obtain ⟨c, h1, h2, h3⟩ := hcs j x hx
    refine ⟨c, h1, h2, fun i u hu => ?_⟩
    have h4 := h3 i u hu
    rw [← htake, List.getElem?_take] at h4
    split at h4
    · unfold cellH plus
      rw [if_neg (by omega), hh]
      simpa using h4
    · cases h4
theorem own_Sl1 {α : Type} {enc : α → Value} {H : PH} {w w' : World} {base n : Nat} {e : TypeId} {v : Value} {xs : List α}
    (h : w'.ownsRow base e 1 v n (xs.map enc)) (hb : w.heap.size ≤ base) (hn : xs.length = n) (hm : n ≤ 140737488355328) : RSl (R1 enc) 1 (plus H w w') xs v :=
  own_Sl h hb hn hm (fun j x hx => ⟨[enc x], rfl, rfl, fun i u hu => by
    obtain rfl : i = 0 := by have := (List.getElem?_eq_some_iff.1 hu).1; simp at this; omega
    simp at hu
    subst hu
    simp [hx]⟩)
end Go.Proofs.YteeckkkcebljmaaDoor
