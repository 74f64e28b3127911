/- Plain: a list sorted and compacted is the rising list of its numbers. -/
import Derived.Test.YteoeahmfpohpeaaDoorPureF
import Derived.Lib.SlicesCompact
namespace Go.Proofs.YteoeahmfpohpeaaDoor
open Go.RowKit
theorem compact_inv (d : Array Int) (hs : ∀ i j, i ≤ j → j < d.size → d[i]! ≤ d[j]!) (m : Nat) (hm : m ≤ d.size) :
    Rising (Lib.compactUpTo d m) ∧ ∀ x, x ∈ Lib.compactUpTo d m ↔ ∃ j, j < m ∧ d[j]! = x := by
  induction m with
  | zero => simp [Lib.compactUpTo, Rising]
  | succ m ih =>
    obtain ⟨h1, h2⟩ := ih (by omega)
    rw [Lib.compactUpTo_succ]
    by_cases hk : Lib.keeps d m = true
    · rw [if_pos hk]
      refine ⟨?_, fun x => ?_⟩
      · refine List.pairwise_append.2 ⟨h1, by simp, fun x hx y hy => ?_⟩
        rw [List.mem_singleton] at hy
        subst hy
        obtain ⟨j, hj, rfl⟩ := (h2 x).1 hx
        simp only [Lib.keeps, decide_eq_true_eq] at hk
        have h3 := hs j (m - 1) (by omega) (by omega)
        have h4 := hs (m - 1) m (by omega) (by omega)
        have h5 : d[m]! ≠ d[m - 1]! := hk.resolve_left (by omega)
        omega
      · rw [List.mem_append, h2, List.mem_singleton]
        constructor
        · rintro (⟨j, hj, rfl⟩ | rfl)
          · exact ⟨j, by omega, rfl⟩
          · exact ⟨m, by omega, rfl⟩
        · rintro ⟨j, hj, rfl⟩
          rcases Nat.lt_or_ge j m with h | h
          · exact .inl ⟨j, h, rfl⟩
          · obtain rfl : j = m := by omega
            exact .inr rfl
    · rw [if_neg hk, List.append_nil]
      refine ⟨h1, fun x => ?_⟩
      rw [h2]
      constructor
      · rintro ⟨j, hj, rfl⟩
        exact ⟨j, by omega, rfl⟩
      · rintro ⟨j, hj, rfl⟩
        rcases Nat.lt_or_ge j m with h | h
        · exact ⟨j, h, rfl⟩
        · obtain rfl : j = m := by omega
          simp only [Lib.keeps, decide_eq_true_eq, not_or, ne_eq, Decidable.not_not] at hk
          exact ⟨j - 1, by omega, hk.2.symm⟩
theorem sorted_get (xs : List Int) : ∀ i j, i ≤ j → j < (xs.mergeSort fun x y => decide (x ≤ y)).toArray.size → (xs.mergeSort fun x y => decide (x ≤ y)).toArray[i]! ≤ (xs.mergeSort fun x y => decide (x ≤ y)).toArray[j]! := by
  intro i j hij hj
  have hp := List.pairwise_mergeSort (le := fun x y : Int => decide (x ≤ y)) (fun a b c h1 h2 => by simp at *; omega) (fun a b => by simp; omega) xs
  generalize xs.mergeSort (fun x y => decide (x ≤ y)) = ys at *
  have hj' : j < ys.length := by simpa using hj
  have hi' : i < ys.length := by omega
  simp only [List.getElem!_toArray, getElem!_pos ys i hi', getElem!_pos ys j hj']
  rcases Nat.eq_or_lt_of_le hij with h | h
  · subst h; exact Int.le_refl _
  · have := (List.pairwise_iff_getElem.1 hp) i j hi' hj' h
    simpa using this
theorem set_eq (xs : List Int) : Lib.compact (xs.mergeSort fun x y => decide (x ≤ y)) = insAll xs [] := by
  have h := compact_inv (xs.mergeSort fun x y => decide (x ≤ y)).toArray (sorted_get xs) _ (Nat.le_refl _)
  have e : Lib.compact (xs.mergeSort fun x y => decide (x ≤ y)) = Lib.compactUpTo (xs.mergeSort fun x y => decide (x ≤ y)).toArray (xs.mergeSort fun x y => decide (x ≤ y)).toArray.size := by simp [Lib.compact]
  rw [← e] at h
  refine rising_ext h.1 (insAll_rising (by simp [Rising])) (fun x => ?_)
  rw [h.2, mem_insAll]
  simp only [List.not_mem_nil, or_false]
  rw [← List.mem_mergeSort (le := fun x y : Int => decide (x ≤ y))]
  generalize xs.mergeSort (fun x y => decide (x ≤ y)) = ys
  constructor
  · rintro ⟨j, hj, rfl⟩
    have hj' : j < ys.length := by simpa using hj
    simp [getElem!_pos ys j hj']
  · intro hx
    obtain ⟨j, hj, rfl⟩ := List.getElem_of_mem hx
    exact ⟨j, by simpa using hj, by simp [getElem!_pos ys j hj]⟩
end Go.Proofs.YteoeahmfpohpeaaDoor
