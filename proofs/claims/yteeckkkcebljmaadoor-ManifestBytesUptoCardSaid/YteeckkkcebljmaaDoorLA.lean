/- A small library: rows of the call's own: append of one element, copy within, reading. -/
import Derived.Test.YteeckkkcebljmaaDoorLK
import Derived.Maps.AppendAt
import Derived.Deep.AppendLies
import Derived.Laws.CopyOwn
import Derived.OwnWalk
namespace Go.Proofs.YteeckkkcebljmaaDoor
open Go.RowKit

theorem own_form1 {w : World} {base n sz : Nat} {e : TypeId} {v : Value} {xs : List Value} (h : w.ownsRow base e sz v n xs) (h0 : 0 < n) : ∃ g cap, v = .slice (some ⟨g, 0, none⟩) n cap ∧ base ≤ g ∧ n ≤ cap ∧ g < w.heap.size := by
  rcases h.2 with ⟨rfl, h1⟩ | ⟨g, cap, cur, rfl, hg, hh, hc, _⟩
  · omega
  · exact ⟨g, cap, rfl, hg, hc, (Array.getElem?_eq_some_iff.1 hh).1⟩

section
variable {P : Program} {ops : Array Oper} {rest : List Oper} {o : Oper} {a : Act} {Q : Exit → Act → World → Prop}
/-- append(v, y), y just laid in a block of its own. -/
theorem app_new {W : World} (base : Nat) (hgd : o.guard = none) (s x : Operand) (t e : TypeId) (z : Value) (sz bytes : Nat)
    (ho : o.op = .call { callee := .builtin .append, args := #[s, x], argTypes := #[t, t] })
    (ht : P.underlying t = some (.slice e)) (hinfo : (P.info? e).map (fun i => (i.zero, i.size, i.bytes)) = some (some z, sz, bytes)) (hz : z.cells.size = sz) (hs0 : 0 < sz) (hb0 : 0 < bytes)
    (v : Value) (n : Nat) (xs ys : List Value) (hs : a.eval s = v) (hx : a.eval x = .slice (some ⟨W.heap.size, 0, none⟩) 1 1) (hy : ys.length = sz) (h1 : ∀ u ∈ ys, u.oneCell' = true)
    (HO : W.ownsRow base e sz v n xs) (hbase : base ≤ W.heap.size) (hl : (n + 1) * bytes ≤ 140737488355328)
    (h : ∀ g cap w1, w1.ownsRow base e sz (.slice (some ⟨g, 0, none⟩) (n + 1) cap) (n + 1) (xs ++ ys) → W.grownBy w1 v.ownBlock → (some g = v.ownBlock ∨ W.heap.size ≤ g) → wpList P ops Q rest (a.put o.dst (.slice (some ⟨g, 0, none⟩) (n + 1) cap)) w1) :
    wpList P ops Q (o :: rest) a (W.alloc (.cells ys.toArray e)) := by
  obtain ⟨i0, hi, hzz⟩ := Option.map_eq_some_iff.1 hinfo
  simp only [Prod.mk.injEq] at hzz
  obtain ⟨hz0, hz1, hz2⟩ := hzz
  have hlen : n + 1 ≤ 140737488355328 := Nat.le_trans (Nat.le_mul_of_pos_right _ hb0) hl
  refine wpList_append_own_at (W.alloc (.cells ys.toArray e)) hgd s x t ho base e i0 z sz bytes ht hi hz0 hz1 hz2 hz hs0 v n xs hs (HO.alloc _) ⟨W.heap.size, 0, none⟩ 1 1 ys hx (by omega)
    (by have := World.news_of_block (cs := ys.toArray) (t := e) (fr := (0, 0)) (heap_alloc_new W _); simpa using this) h1 (by simp only [maxLen]; omega) hl (by simp; omega) ?_
  intro v1 w1 hown hg _ hat
  obtain ⟨g, cap, rfl, hgb, _, _⟩ := own_form1 hown (by omega)
  refine h g cap w1 hown (World.grownBy.trans (World.grownBy_alloc W _ _) hg) ?_
  rcases hat with hat | hat
  · exact .inl (by simpa [Value.ownBlock] using hat)
  · simp [Value.ownBlock] at hat
    exact .inr (by omega)
end

theorem own_base {w : World} {base : Nat} {e : TypeId} {size n : Nat} {v : Value} {xs : List Value} (h : w.ownsRow base e size v n xs) (k : Nat) (hk : v.ownBlock = some k) : base ≤ k := (h.lt k hk).1
theorem below_grown {B : Nat} {w W w1 : World} (h : Below B w W) {row : Option Nat} (hB : B ≤ W.heap.size) (hg : W.grownBy w1 row) (hr : ∀ k, row = some k → B ≤ k) : Below B w w1 := h.grown hg hB hr
/-- What is owned reads. -/
theorem own_reads {α : Type} {enc : α → Value} {w : World} {base n : Nat} {e : TypeId} {v : Value} {xs : List α}
    (h : w.ownsRow base e 1 v n (xs.map enc)) (hm : n ≤ 140737488355328) : ∃ A c, v = .slice A n c ∧ xs.length = n ∧ n ≤ c ∧ Sl (R1 enc) 1 (hp w) A xs := by
  have hl : xs.length = n := by have := h.1; simpa using this
  rcases h.2 with ⟨rfl, h0⟩ | ⟨g, cap, cur, rfl, hg, hh, hc, hcm, hsz, htake⟩
  · obtain rfl : xs = [] := List.eq_nil_of_length_eq_zero (by omega)
    exact ⟨none, 0, by subst h0; rfl, hl, by omega, Sl.nil _ _ _ _⟩
  · refine ⟨some ⟨g, 0, none⟩, cap, rfl, hl, hc, by omega, fun _ => ⟨g, 0, rfl, fun j x hx => ⟨[enc x], rfl, rfl, fun i u hu => ?_⟩⟩⟩
    obtain rfl : i = 0 := by have := (List.getElem?_eq_some_iff.1 hu).1; simp at this; omega
    simp at hu
    subst hu
    have hj : j < n := by have := (List.getElem?_eq_some_iff.1 hx).1; omega
    have : (xs.map enc)[j]? = some (enc x) := by simp [hx]
    rw [← htake, List.getElem?_take] at this
    simp only [Nat.mul_one] at this
    rw [if_pos hj] at this
    simp [cellH, hp, hh]
    simpa using this
theorem own_le_cap {w : World} {base n sz : Nat} {e : TypeId} {g c m : Nat} {xs : List Value} (h : w.ownsRow base e sz (.slice (some ⟨g, 0, none⟩) m c) n xs) :
    ∃ cur : List Value, m = n ∧ base ≤ g ∧ w.heap[g]? = some (.cells cur.toArray e (0, 0)) ∧ n ≤ c ∧ c ≤ maxLen ∧ cur.length = c * sz ∧ cur.take (n * sz) = xs := by
  rcases h.2 with ⟨h1, _⟩ | ⟨g', cap, cur, h1, hg, hh, hc, hcm, hsz, htake⟩
  · cases h1
  · injection h1 with h1 h2 h3
    injection h1 with h1
    injection h1 with h1
    subst h1 h2 h3
    exact ⟨cur.toList, rfl, hg, by simpa using hh, hc, hcm, by simpa using hsz, htake⟩
theorem own_mk {w : World} {base n sz : Nat} {e : TypeId} {g c : Nat} {cur xs : List Value} (hb : base ≤ g) (hh : w.heap[g]? = some (.cells cur.toArray e (0, 0))) (hc : n ≤ c) (hcm : c ≤ maxLen) (hsz : cur.length = c * sz) (hx : cur.take (n * sz) = xs) :
    w.ownsRow base e sz (.slice (some ⟨g, 0, none⟩) n c) n xs := by
  refine ⟨?_, .inr ⟨g, c, cur.toArray, rfl, hb, hh, hc, hcm, by simpa using hsz, by simpa using hx⟩⟩
  rw [← hx, List.length_take, hsz]
  exact Nat.min_eq_left (Nat.mul_le_mul_right _ hc)
theorem own_below {w w1 : World} {base : Nat} {e : TypeId} {size n : Nat} {v : Value} {xs : List Value} (h : w.ownsRow base e size v n xs) (hb : Below w.heap.size w w1) : w1.ownsRow base e size v n xs :=
  h.kept (row := none) ⟨hb.os, hb.tape, hb.output, hb.size, fun i hi _ => hb.block i hi⟩ (by cases v.ownBlock <;> simp)
theorem own_slice {w : World} {base n : Nat} {e : TypeId} {size : Nat} {v : Value} {xs : List Value} (h : w.ownsRow base e size v n xs) : ∃ A c, v = .slice A n c ∧ n ≤ c := by
  rcases h.2 with ⟨rfl, rfl⟩ | ⟨g, cap, cur, rfl, _, _, hc, _⟩
  · exact ⟨none, 0, rfl, Nat.le_refl _⟩
  · exact ⟨_, cap, rfl, hc⟩
theorem Blk.grown {W W' : World} {b : Nat} {cs : List Value} (h : Blk W b cs) {row : Option Nat} (hg : W.grownBy W' row) (hne : ∀ k, row = some k → k ≠ b) : Blk W' b cs := by
  have := h.lt
  obtain ⟨t, h⟩ := h
  exact ⟨t, by rw [hg.block b this (fun e => hne b e.symm rfl)]; exact h⟩
/-- Behind an append, a write into the same row. -/
theorem grown_write {w w1 w2 : World} {row : Option Nat} {g : Nat} (h : w.grownBy w1 row) (hg : some g = row ∨ w.heap.size ≤ g) (ho : w2.os = w1.os) (ht : w2.tape = w1.tape) (hu : w2.output = w1.output) (hs : w2.heap.size = w1.heap.size)
    (hb : ∀ k, k ≠ g → w2.heap[k]? = w1.heap[k]?) : w.grownBy w2 row := by
  refine ⟨ho.trans h.os, ht.trans h.tape, hu.trans h.output, by rw [hs]; exact h.size, fun k hk hne => ?_⟩
  rw [hb k (fun e => by subst e; rcases hg with hg | hg; exact hne hg; omega)]
  exact h.block k hk hne
theorem setCell_heap {w : World} {g i : Nat} {cur : List Value} {t : TypeId} {u : Value} (hh : w.heap[g]? = some (.cells cur.toArray t (0, 0))) : (w.setCell ⟨g, i, none⟩ u).heap[g]? = some (.cells (cur.set i u).toArray t (0, 0)) := by
  simp only [World.setCell, Array.getElem?_modify, if_true, hh, Option.map_some]
  simp
theorem setCell_size (w : World) (a : Addr) (u : Value) : (w.setCell a u).heap.size = w.heap.size := by simp [World.setCell]
/-- One row has been written, nothing else. -/
structure Wrote (w1 w2 : World) (g : Nat) (cur : List Value) (t : TypeId) : Prop where
  os : w2.os = w1.os
  tape : w2.tape = w1.tape
  output : w2.output = w1.output
  size : w2.heap.size = w1.heap.size
  row : w2.heap[g]? = some (.cells cur.toArray t (0, 0))
  other : ∀ k, k ≠ g → w2.heap[k]? = w1.heap[k]?
theorem Wrote.refl {w : World} {g : Nat} {cur : List Value} {t : TypeId} (h : w.heap[g]? = some (.cells cur.toArray t (0, 0))) : Wrote w w g cur t := ⟨rfl, rfl, rfl, rfl, h, fun _ _ => rfl⟩
theorem Wrote.drew {w1 w2 : World} {g : Nat} {cur : List Value} {t : TypeId} (h : Wrote w1 w2 g cur t) : Wrote w1 w2.drew g cur t := ⟨h.os, h.tape, h.output, h.size, h.row, h.other⟩
theorem Wrote.set {w1 w2 : World} {g : Nat} {cur : List Value} {t : TypeId} (h : Wrote w1 w2 g cur t) (i : Nat) (u : Value) : Wrote w1 (w2.setCell ⟨g, i, none⟩ u) g (cur.set i u) t :=
  ⟨h.os, h.tape, h.output, by rw [setCell_size]; exact h.size, setCell_heap h.row, fun k hk => by rw [Below.heap_setCell w2 ⟨g, i, none⟩ u k hk]; exact h.other k hk⟩
theorem Wrote.setRow {w1 w2 : World} {g : Nat} {cur : List Value} {t : TypeId} (h : Wrote w1 w2 g cur t) (new : List Value) : Wrote w1 (w2.setRow g new.toArray) g new t :=
  ⟨h.os, h.tape, h.output, by rw [size_setRow]; exact h.size, setRow_heap w2 g _ _ t _ h.row, fun k hk => by rw [setRow_other w2 g k _ hk]; exact h.other k hk⟩
theorem Wrote.cell {w1 w2 : World} {g : Nat} {cur : List Value} {t : TypeId} (h : Wrote w1 w2 g cur t) {i : Nat} {v : Value} (hv : cur[i]? = some v) : w2.cell? ⟨g, i, none⟩ = some v := by
  unfold World.cell?
  rw [h.row]
  simpa using hv
theorem Wrote.frozen {w1 w2 : World} {g : Nat} {cur : List Value} {t : TypeId} (h : Wrote w1 w2 g cur t) (i : Nat) : w2.frozen? ⟨g, i, none⟩ = false := by
  unfold World.frozen?
  rw [h.row]
  simp
theorem Wrote.grown {w w1 w2 : World} {g : Nat} {cur : List Value} {t : TypeId} (h : Wrote w1 w2 g cur t) {row : Option Nat} (hg : w.grownBy w1 row) (hr : some g = row ∨ w.heap.size ≤ g) : w.grownBy w2 row :=
  grown_write hg hr h.os h.tape h.output h.size h.other
theorem add_addr (g k j : Nat) : (⟨g, k, none⟩ : Addr).add j = ⟨g, k + j, none⟩ := by unfold Addr.add; split <;> simp_all
theorem put_src {cur xs : List Value} {z : Value} {k j : Nat} {v : Value} (ht : cur.take (xs.length + 1) = xs ++ [z]) (hj : (xs.drop k)[j]? = some v) : cur[k + j]? = some v := by
  rw [List.getElem?_drop] at hj
  have hlt := (List.getElem?_eq_some_iff.1 hj).1
  have : (cur.take (xs.length + 1))[k + j]? = some v := by rw [ht, List.getElem?_append_left hlt]; exact hj
  rw [List.getElem?_take, if_pos (by omega)] at this
  exact this
/-- The row behind 'l = append(l, z); copy(l[k+1:], l[k:]); l[k] = y'. -/
theorem put_cells {cur xs : List Value} {z y : Value} {k : Nat} (hk : k ≤ xs.length) (ht : cur.take (xs.length + 1) = xs ++ [z]) :
    ((splice cur (k + 1) (xs.drop k)).set k y).take (xs.length + 1) = xs.take k ++ y :: xs.drop k := by
  have hl : xs.length + 1 ≤ cur.length := by
    have := congrArg List.length ht
    simp at this
    omega
  have hg : ∀ j, j < xs.length + 1 → cur[j]? = (xs ++ [z])[j]? := fun j hj => by
    rw [← ht, List.getElem?_take, if_pos hj]
  apply List.ext_getElem?
  intro j
  unfold splice
  rcases Nat.lt_or_ge j (xs.length + 1) with hj | hj
  · rw [List.getElem?_take, if_pos hj, List.getElem?_set]
    by_cases hkj : k = j
    · subst hkj
      rw [if_pos rfl]
      have hlen : k < (cur.take (k + 1) ++ (xs.drop k ++ cur.drop (k + 1 + (xs.drop k).length))).length := by simp; omega
      rw [if_pos hlen]
      rw [List.getElem?_append_right (by simp only [List.length_take]; omega)]
      simp [Nat.min_eq_left hk]
    · rw [if_neg hkj]
      rcases Nat.lt_or_ge j k with h | h
      · rw [List.getElem?_append_left (by simp; omega), List.getElem?_take, if_pos (by omega), hg j hj, List.getElem?_append_left (by omega), List.getElem?_append_left (by simp; omega), List.getElem?_take, if_pos h]
      · rw [List.getElem?_append_right (by simp; omega), List.getElem?_append_left (by simp; omega), List.getElem?_append_right (by simp; omega)]
        simp only [List.length_take]
        rw [show j - min (k + 1) cur.length = j - (k + 1) by omega, show j - min k xs.length = (j - (k + 1)) + 1 by omega, List.getElem?_cons_succ]
  · rw [List.getElem?_eq_none (by simp; omega), List.getElem?_eq_none (by simp; omega)]
end Go.Proofs.YteeckkkcebljmaaDoor
