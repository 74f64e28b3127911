/- Walks: lodestarlaw16.sure. -/
import Derived.Test.YteoeahmfpohpeaaDoorWalkO
namespace Go.Proofs.YteoeahmfpohpeaaDoor
open Go.RowKit Go.Shelf
set_option maxRecDepth 100000
set_option linter.unusedVariables false
set_option linter.unusedSimpArgs false

inductive Each {α : Type} (R : α → List Value → Prop) (sz : Nat) : List α → List (List Value) → Prop
  | nil : Each R sz [] []
  | cons {x : α} {c : List Value} {xs : List α} {css : List (List Value)} : R x c ∧ c.length = sz → Each R sz xs css → Each R sz (x :: xs) (c :: css)
/-- Blocks laid one behind the other. -/
def allocs (w : World) : List Obj → World
  | [] => w
  | o :: l => allocs (w.alloc o) l
theorem allocs_old : ∀ (l : List Obj) (w : World) (b : Nat), b < w.heap.size → (allocs w l).heap[b]? = w.heap[b]?
  | [], _, _, _ => rfl
  | o :: l, w, b, h => by
    rw [allocs, allocs_old l _ b (by rw [World.size_alloc]; omega)]
    exact heap_alloc_old w o h
theorem allocs_get : ∀ (l : List Obj) (w : World) (k : Nat) (o : Obj), l[k]? = some o → (allocs w l).heap[w.heap.size + k]? = some o
  | [], _, _, _, h => by simp at h
  | x :: l, w, 0, o, h => by
    simp at h
    subst h
    rw [allocs, allocs_old l _ _ (by rw [World.size_alloc]; omega)]
    exact heap_alloc_new w _
  | x :: l, w, k + 1, o, h => by
    have := allocs_get l (w.alloc x) k o (by simpa using h)
    rw [World.size_alloc] at this
    rw [allocs, show w.heap.size + (k + 1) = w.heap.size + 1 + k by omega]
    exact this
/-- Values that lie one behind the other in one block. -/
theorem flat_get {α : Type} {R : α → List Value → Prop} {sz : Nat} {xs : List α} {css : List (List Value)} (h : Each R sz xs css) :
    ∀ j x, xs[j]? = some x → ∃ c, R x c ∧ c.length = sz ∧ ∀ i u, c[i]? = some u → css.flatten[j * sz + i]? = some u := by
  induction h with
  | nil => intro j x hx; simp at hx
  | @cons x c xs css h1 _ ih =>
    intro j y hy
    cases j with
    | zero =>
      simp at hy
      subst hy
      refine ⟨c, h1.1, h1.2, fun i u hu => ?_⟩
      have hi := (List.getElem?_eq_some_iff.1 hu).1
      rw [List.flatten_cons, Nat.zero_mul, Nat.zero_add, List.getElem?_append_left hi]
      exact hu
    | succ j =>
      obtain ⟨d, d1, d2, d3⟩ := ih j y (by simpa using hy)
      refine ⟨d, d1, d2, fun i u hu => ?_⟩
      have := d3 i u hu
      rw [List.flatten_cons, List.getElem?_append_right (by rw [h1.2]; have : (j + 1) * sz = j * sz + sz := Nat.succ_mul j sz; omega), h1.2]
      rw [show (j + 1) * sz + i - sz = j * sz + i by have : (j + 1) * sz = j * sz + sz := Nat.succ_mul j sz; omega]
      exact this
theorem Sl.flat {α : Type} {R : α → List Value → Prop} {sz : Nat} {H : PH} {b : Nat} {t : TypeId} {fr : Nat × Nat} {xs : List α} {css : List (List Value)} (h : Each R sz xs css) (hl : xs.length ≤ 140737488355328) (hH : H b = some (.cells css.flatten.toArray t fr)) : Sl R sz H (some ⟨b, 0, none⟩) xs := by
  refine ⟨hl, fun _ => ⟨b, 0, rfl, fun j x hx => ?_⟩⟩
  obtain ⟨c, c1, c2, c3⟩ := flat_get h j x hx
  refine ⟨c, c1, c2, fun i u hu => ?_⟩
  have := c3 i u hu
  unfold cellH
  rw [hH]
  simpa using this
theorem cell_of {H : PH} {b : Nat} {cs : List Value} {t : TypeId} {fr : Nat × Nat} (hH : H b = some (.cells cs.toArray t fr)) (i : Nat) {v : Value} (hv : cs[i]? = some v) : ∀ W, In H W → W.cell? ⟨b, i, none⟩ = some v := fun W hI => hI.cell (by unfold cellH; rw [hH]; simpa using hv)

def cIn : Cond := .mk 5 ⟨#[97]⟩ ⟨0, 0, ⟨#[]⟩⟩ 5 9 []
def cNone : Cond := .mk 6 ⟨#[]⟩ ⟨0, 0, ⟨#[]⟩⟩ 0 0 [cIn]
def cTwo : Cond := .mk 6 ⟨#[]⟩ ⟨0, 0, ⟨#[]⟩⟩ 0 0 [cIn, cIn]
def cAnd : Cond := .mk 7 ⟨#[]⟩ ⟨0, 0, ⟨#[]⟩⟩ 0 0 []
def cOr : Cond := .mk 8 ⟨#[]⟩ ⟨0, 0, ⟨#[]⟩⟩ 0 0 []
def cHas : Cond := .mk 3 ⟨#[122]⟩ ⟨0, 0, ⟨#[]⟩⟩ 0 0 []
def pOne : Pt := ⟨1, [], [⟨⟨#[97]⟩, ⟨1, 5, ⟨#[]⟩⟩⟩]⟩
def fdsOne : List (ByteArray × Int) := [(⟨#[97]⟩, 1), (⟨#[98]⟩, 2), (⟨#[99]⟩, 3)]
/-- What the fixed test lays ahead of its calls. -/
def sureW (w : World) : World := (((((((((((w.alloc (.cells #[.string ⟨#[97]⟩, .int .i64 1, .int .i64 5, .string ⟨#[]⟩] 48)).alloc (.cells #[.int .i64 1, .slice none 0 0, .slice (some ⟨w.heap.size, 0, none⟩) 1 1] 37)).alloc (.cells #[.int .i64 5, .string ⟨#[97]⟩, .int .i64 0, .int .i64 0, .string ⟨#[]⟩, .int .i64 5, .int .i64 9, .slice none 0 0] 26)).alloc (.cells #[.int .i64 5, .string ⟨#[97]⟩, .int .i64 0, .int .i64 0, .string ⟨#[]⟩, .int .i64 5, .int .i64 9, .slice none 0 0] 26)).alloc (.cells #[.int .i64 6, .string ⟨#[]⟩, .int .i64 0, .int .i64 0, .string ⟨#[]⟩, .int .i64 0, .int .i64 0, .slice (some ⟨w.heap.size + 1 + 1 + 1, 0, none⟩) 1 1] 26)).alloc (.cells #[.int .i64 5, .string ⟨#[97]⟩, .int .i64 0, .int .i64 0, .string ⟨#[]⟩, .int .i64 5, .int .i64 9, .slice none 0 0, .int .i64 5, .string ⟨#[97]⟩, .int .i64 0, .int .i64 0, .string ⟨#[]⟩, .int .i64 5, .int .i64 9, .slice none 0 0] 26)).alloc (.cells #[.int .i64 6, .string ⟨#[]⟩, .int .i64 0, .int .i64 0, .string ⟨#[]⟩, .int .i64 0, .int .i64 0, .slice (some ⟨w.heap.size + 1 + 1 + 1 + 1 + 1, 0, none⟩) 2 2] 26)).alloc (.cells #[.slice (some ⟨w.heap.size + 1 + 1 + 1 + 1 + 1 + 1 + 1 + 1, 0, none⟩) 3 3, .slice (some ⟨w.heap.size + 1 + 1 + 1 + 1 + 1 + 1 + 1 + 1 + 1, 0, none⟩) 3 3] 52)).alloc (.cells #[.string ⟨#[118]⟩, .int .i64 2, .int .i64 1, .string ⟨#[119]⟩, .int .i64 1, .int .i64 2, .string ⟨#[120]⟩, .int .i64 2, .int .i64 3] 73)).alloc (.cells #[.string ⟨#[97]⟩, .int .i64 1, .string ⟨#[98]⟩, .int .i64 2, .string ⟨#[99]⟩, .int .i64 3] 75)).alloc (.cells #[.slice (some ⟨w.heap.size + 1 + 1 + 1 + 1 + 1 + 1 + 1 + 1, 0, none⟩) 3 3, .slice (some ⟨w.heap.size + 1 + 1 + 1 + 1 + 1 + 1 + 1 + 1 + 1, 0, none⟩) 3 3] 52))
def allocsL (w : World) : List Obj := [.cells #[.string ⟨#[97]⟩, .int .i64 1, .int .i64 5, .string ⟨#[]⟩] 48, .cells #[.int .i64 1, .slice none 0 0, .slice (some ⟨w.heap.size, 0, none⟩) 1 1] 37, .cells #[.int .i64 5, .string ⟨#[97]⟩, .int .i64 0, .int .i64 0, .string ⟨#[]⟩, .int .i64 5, .int .i64 9, .slice none 0 0] 26, .cells #[.int .i64 5, .string ⟨#[97]⟩, .int .i64 0, .int .i64 0, .string ⟨#[]⟩, .int .i64 5, .int .i64 9, .slice none 0 0] 26, .cells #[.int .i64 6, .string ⟨#[]⟩, .int .i64 0, .int .i64 0, .string ⟨#[]⟩, .int .i64 0, .int .i64 0, .slice (some ⟨w.heap.size + 1 + 1 + 1, 0, none⟩) 1 1] 26, .cells #[.int .i64 5, .string ⟨#[97]⟩, .int .i64 0, .int .i64 0, .string ⟨#[]⟩, .int .i64 5, .int .i64 9, .slice none 0 0, .int .i64 5, .string ⟨#[97]⟩, .int .i64 0, .int .i64 0, .string ⟨#[]⟩, .int .i64 5, .int .i64 9, .slice none 0 0] 26, .cells #[.int .i64 6, .string ⟨#[]⟩, .int .i64 0, .int .i64 0, .string ⟨#[]⟩, .int .i64 0, .int .i64 0, .slice (some ⟨w.heap.size + 1 + 1 + 1 + 1 + 1, 0, none⟩) 2 2] 26, .cells #[.slice (some ⟨w.heap.size + 1 + 1 + 1 + 1 + 1 + 1 + 1 + 1, 0, none⟩) 3 3, .slice (some ⟨w.heap.size + 1 + 1 + 1 + 1 + 1 + 1 + 1 + 1 + 1, 0, none⟩) 3 3] 52, .cells #[.string ⟨#[118]⟩, .int .i64 2, .int .i64 1, .string ⟨#[119]⟩, .int .i64 1, .int .i64 2, .string ⟨#[120]⟩, .int .i64 2, .int .i64 3] 73, .cells #[.string ⟨#[97]⟩, .int .i64 1, .string ⟨#[98]⟩, .int .i64 2, .string ⟨#[99]⟩, .int .i64 3] 75, .cells #[.slice (some ⟨w.heap.size + 1 + 1 + 1 + 1 + 1 + 1 + 1 + 1, 0, none⟩) 3 3, .slice (some ⟨w.heap.size + 1 + 1 + 1 + 1 + 1 + 1 + 1 + 1 + 1, 0, none⟩) 3 3] 52]
theorem sure_below (w : World) : Below w.heap.size w (sureW w) := by unfold sureW; repeat (first | exact Below.refl _ _ | refine below_allocS ?_ _)
theorem nilR {α : Type} (R : α → List Value → Prop) (sz : Nat) (H : PH) : RSl R sz H [] (.slice none 0 0) := ⟨none, 0, rfl, by simp, Sl.nil _ _ _ _⟩

theorem sure_b0 (w : World) : hp (sureW w) (w.heap.size) = some (.cells #[.string ⟨#[97]⟩, .int .i64 1, .int .i64 5, .string ⟨#[]⟩] 48) := allocs_get (allocsL w) w 0 _ rfl
theorem sure_b1 (w : World) : hp (sureW w) (w.heap.size + 1) = some (.cells #[.int .i64 1, .slice none 0 0, .slice (some ⟨w.heap.size, 0, none⟩) 1 1] 37) := allocs_get (allocsL w) w 1 _ rfl
theorem sure_b2 (w : World) : hp (sureW w) (w.heap.size + 1 + 1) = some (.cells #[.int .i64 5, .string ⟨#[97]⟩, .int .i64 0, .int .i64 0, .string ⟨#[]⟩, .int .i64 5, .int .i64 9, .slice none 0 0] 26) := allocs_get (allocsL w) w 2 _ rfl
theorem sure_b3 (w : World) : hp (sureW w) (w.heap.size + 1 + 1 + 1) = some (.cells #[.int .i64 5, .string ⟨#[97]⟩, .int .i64 0, .int .i64 0, .string ⟨#[]⟩, .int .i64 5, .int .i64 9, .slice none 0 0] 26) := allocs_get (allocsL w) w 3 _ rfl
theorem sure_b4 (w : World) : hp (sureW w) (w.heap.size + 1 + 1 + 1 + 1) = some (.cells #[.int .i64 6, .string ⟨#[]⟩, .int .i64 0, .int .i64 0, .string ⟨#[]⟩, .int .i64 0, .int .i64 0, .slice (some ⟨w.heap.size + 1 + 1 + 1, 0, none⟩) 1 1] 26) := allocs_get (allocsL w) w 4 _ rfl
theorem sure_b5 (w : World) : hp (sureW w) (w.heap.size + 1 + 1 + 1 + 1 + 1) = some (.cells #[.int .i64 5, .string ⟨#[97]⟩, .int .i64 0, .int .i64 0, .string ⟨#[]⟩, .int .i64 5, .int .i64 9, .slice none 0 0, .int .i64 5, .string ⟨#[97]⟩, .int .i64 0, .int .i64 0, .string ⟨#[]⟩, .int .i64 5, .int .i64 9, .slice none 0 0] 26) := allocs_get (allocsL w) w 5 _ rfl
theorem sure_b6 (w : World) : hp (sureW w) (w.heap.size + 1 + 1 + 1 + 1 + 1 + 1) = some (.cells #[.int .i64 6, .string ⟨#[]⟩, .int .i64 0, .int .i64 0, .string ⟨#[]⟩, .int .i64 0, .int .i64 0, .slice (some ⟨w.heap.size + 1 + 1 + 1 + 1 + 1, 0, none⟩) 2 2] 26) := allocs_get (allocsL w) w 6 _ rfl
theorem sure_b7 (w : World) : hp (sureW w) (w.heap.size + 1 + 1 + 1 + 1 + 1 + 1 + 1) = some (.cells #[.slice (some ⟨w.heap.size + 1 + 1 + 1 + 1 + 1 + 1 + 1 + 1, 0, none⟩) 3 3, .slice (some ⟨w.heap.size + 1 + 1 + 1 + 1 + 1 + 1 + 1 + 1 + 1, 0, none⟩) 3 3] 52) := allocs_get (allocsL w) w 7 _ rfl
theorem sure_b8 (w : World) : hp (sureW w) (w.heap.size + 1 + 1 + 1 + 1 + 1 + 1 + 1 + 1) = some (.cells #[.string ⟨#[118]⟩, .int .i64 2, .int .i64 1, .string ⟨#[119]⟩, .int .i64 1, .int .i64 2, .string ⟨#[120]⟩, .int .i64 2, .int .i64 3] 73) := allocs_get (allocsL w) w 8 _ rfl
theorem sure_b9 (w : World) : hp (sureW w) (w.heap.size + 1 + 1 + 1 + 1 + 1 + 1 + 1 + 1 + 1) = some (.cells #[.string ⟨#[97]⟩, .int .i64 1, .string ⟨#[98]⟩, .int .i64 2, .string ⟨#[99]⟩, .int .i64 3] 75) := allocs_get (allocsL w) w 9 _ rfl
theorem sure_b10 (w : World) : hp (sureW w) (w.heap.size + 1 + 1 + 1 + 1 + 1 + 1 + 1 + 1 + 1 + 1) = some (.cells #[.slice (some ⟨w.heap.size + 1 + 1 + 1 + 1 + 1 + 1 + 1 + 1, 0, none⟩) 3 3, .slice (some ⟨w.heap.size + 1 + 1 + 1 + 1 + 1 + 1 + 1 + 1 + 1, 0, none⟩) 3 3] 52) := allocs_get (allocsL w) w 10 _ rfl

theorem rc_in (H : PH) : RC H 1 cIn [.int .i64 5, .string ⟨#[97]⟩, .int .i64 0, .int .i64 0, .string ⟨#[]⟩, .int .i64 5, .int .i64 9, .slice none 0 0] := ⟨_, rfl, nilR _ _ _⟩
theorem rc_and (H : PH) : RC H 1 cAnd [.int .i64 7, .string ⟨#[]⟩, .int .i64 0, .int .i64 0, .string ⟨#[]⟩, .int .i64 0, .int .i64 0, .slice none 0 0] := ⟨_, rfl, nilR _ _ _⟩
theorem rc_or (H : PH) : RC H 1 cOr [.int .i64 8, .string ⟨#[]⟩, .int .i64 0, .int .i64 0, .string ⟨#[]⟩, .int .i64 0, .int .i64 0, .slice none 0 0] := ⟨_, rfl, nilR _ _ _⟩
theorem rc_has (H : PH) : RC H 1 cHas [.int .i64 3, .string ⟨#[122]⟩, .int .i64 0, .int .i64 0, .string ⟨#[]⟩, .int .i64 0, .int .i64 0, .slice none 0 0] := ⟨_, rfl, nilR _ _ _⟩
theorem rc_none (w : World) : RC (hp (sureW w)) 2 cNone [.int .i64 6, .string ⟨#[]⟩, .int .i64 0, .int .i64 0, .string ⟨#[]⟩, .int .i64 0, .int .i64 0, .slice (some ⟨w.heap.size + 1 + 1 + 1, 0, none⟩) 1 1] :=
  ⟨_, rfl, _, _, rfl, by simp, Sl.flat (css := [[.int .i64 5, .string ⟨#[97]⟩, .int .i64 0, .int .i64 0, .string ⟨#[]⟩, .int .i64 5, .int .i64 9, .slice none 0 0]]) (.cons ⟨rc_in _, rfl⟩ .nil) (by simp) (sure_b3 w)⟩
theorem rc_two (w : World) : RC (hp (sureW w)) 2 cTwo [.int .i64 6, .string ⟨#[]⟩, .int .i64 0, .int .i64 0, .string ⟨#[]⟩, .int .i64 0, .int .i64 0, .slice (some ⟨w.heap.size + 1 + 1 + 1 + 1 + 1, 0, none⟩) 2 2] :=
  ⟨_, rfl, _, _, rfl, by simp, Sl.flat (css := [[.int .i64 5, .string ⟨#[97]⟩, .int .i64 0, .int .i64 0, .string ⟨#[]⟩, .int .i64 5, .int .i64 9, .slice none 0 0], [.int .i64 5, .string ⟨#[97]⟩, .int .i64 0, .int .i64 0, .string ⟨#[]⟩, .int .i64 5, .int .i64 9, .slice none 0 0]]) (.cons ⟨rc_in _, rfl⟩ (.cons ⟨rc_in _, rfl⟩ .nil)) (by simp) (sure_b5 w)⟩
theorem rp_one (w : World) : RPt (hp (sureW w)) pOne [.int .i64 1, .slice none 0 0, .slice (some ⟨w.heap.size, 0, none⟩) 1 1] :=
  ⟨_, _, rfl, nilR _ _ _, _, _, rfl, by simp [pOne], Sl.flat (css := [[.string ⟨#[97]⟩, .int .i64 1, .int .i64 5, .string ⟨#[]⟩]]) (.cons ⟨rfl, rfl⟩ .nil) (by simp [pOne]) (sure_b0 w)⟩
theorem rfd_one (w : World) : RSl RFd 2 (hp (sureW w)) fdsOne (.slice (some ⟨w.heap.size + 1 + 1 + 1 + 1 + 1 + 1 + 1 + 1 + 1, 0, none⟩) 3 3) :=
  ⟨_, _, rfl, by simp [fdsOne], Sl.flat (css := [[.string ⟨#[97]⟩, .int .i64 1], [.string ⟨#[98]⟩, .int .i64 2], [.string ⟨#[99]⟩, .int .i64 3]]) (.cons ⟨rfl, rfl⟩ (.cons ⟨rfl, rfl⟩ (.cons ⟨rfl, rfl⟩ .nil))) (by simp [fdsOne]) (sure_b9 w)⟩
theorem RPt.mono {H H' : PH} (h : Le H H') {p : Pt} {ps : List Value} (hp : RPt H p ps) : RPt H' p ps := by
  obtain ⟨V, F, rfl, hV, hF⟩ := hp
  exact ⟨V, F, rfl, hV.mono h (fun x cs _ hx => by obtain ⟨V', rfl, h2⟩ := hx; exact ⟨V', rfl, h2.mono h (fun _ _ _ h => h)⟩), hF.mono h (fun _ _ _ h => h)⟩
theorem ps_in : passes pOne.flds cIn = true := by decide
theorem ps_none : passes pOne.flds cNone = false := by decide
theorem ps_two : passes pOne.flds cTwo = false := by decide
theorem ps_and : passes pOne.flds cAnd = true := by decide
theorem ps_or : passes pOne.flds cOr = false := by decide
theorem hits_one : insAll (hits cIn [pOne, pOne]) [] = [1] := by decide
theorem size_none : csize cNone = 2 := by simp [cNone, cIn, csize, csizeL, wrap64]
theorem size_two : csize cTwo ≤ 256 := by simp [cTwo, cIn, csize, csizeL, wrap64]
theorem depth_two : cdepth cTwo ≤ 14 := by simp [cTwo, cIn, cdepth, cdepthL, wrap64]
theorem size_has : csize cHas ≤ 256 := by simp [cHas, csize, csizeL, wrap64]
theorem depth_has : cdepth cHas ≤ 14 := by simp [cHas, cdepth, cdepthL, wrap64]
theorem size_in : csize cIn ≤ 256 := by simp [cIn, csize, csizeL, wrap64]
theorem depth_in : cdepth cIn ≤ 14 := by simp [cIn, cdepth, cdepthL, wrap64]
theorem depth_none : cdepth cNone = 2 := by simp [cNone, cIn, cdepth, cdepthL, wrap64]
end Go.Proofs.YteoeahmfpohpeaaDoor
