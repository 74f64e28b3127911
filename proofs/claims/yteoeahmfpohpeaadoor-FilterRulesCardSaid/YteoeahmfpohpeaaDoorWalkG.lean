/- Walks: ids.set, out of the shelf's contracts. -/
import Derived.Test.YteoeahmfpohpeaaDoorWalkF
import Derived.Test.YteoeahmfpohpeaaDoorPureG
import Derived.Test.YteoeahmfpohpeaaDoorShelf
import Derived.Sort.OwnSortedInts
namespace Go.Proofs.YteoeahmfpohpeaaDoor
open Go.RowKit Go.Shelf Go.Sort
set_option maxRecDepth 100000
set_option linter.unusedVariables false
set_option linter.unusedSimpArgs false

def noPH : PH := fun _ => none
theorem own_prefix {w : World} {base n m : Nat} {e : TypeId} {g c sz : Nat} {xs ys : List Value} (h : w.ownsRow base e sz (.slice (some ⟨g, 0, none⟩) n c) n (xs ++ ys)) (hm : m ≤ n) (hx : xs.length = m * sz) : w.ownsRow base e sz (.slice (some ⟨g, 0, none⟩) m c) m xs := by
  obtain ⟨cur, _, hb, hh, hc, hcm, hl, ht⟩ := own_le_cap h
  refine own_mk hb hh (by omega) hcm hl ?_
  have : (cur.take (n * sz)).take (m * sz) = xs := by rw [ht, ← hx, List.take_left]
  rwa [List.take_take, Nat.min_eq_left (Nat.mul_le_mul_right _ hm)] at this

theorem compact_length_le (d : Array Int) (m : Nat) : (Lib.compactUpTo d m).length ≤ m := by
  induction m with
  | zero => simp [Lib.compactUpTo]
  | succ m ih => rw [Lib.compactUpTo_succ]; split <;> simp <;> omega

set_option maxHeartbeats 1000000 in
theorem set_calls (H : PH) (w : World) (A : Option Addr) (c : Nat) (xs : List Int) (hI : In H w) (hl : Sl RI 1 H A xs) (hb : xs.length * 8 ≤ 140737488355328) :
    Calls Tryd.prog 46 #[.slice A xs.length c] w fun e w' => ∃ v', e = .returned v' ∧ RSl RI 1 (plus noPH w w') (insAll xs []) v' ∧ Below w.heap.size w w' := by
  rcases Nat.eq_zero_or_pos xs.length with h0 | h0
  · obtain rfl : xs = [] := List.eq_nil_of_length_eq_zero h0
    cases A with
    | none =>
      go_enter Tryd.func46, Tryd.ntmps46
      go_wp2_with (first
        | (go_at_call 50; go_must (refine (Tryd.slices_Clone_int_nil 0 c w).mono ?_; rintro e w1 ⟨rfl, rfl⟩))
        | (go_at_call 51; go_must (refine (Tryd.slices_Sort_int_none _ _ _).mono ?_; rintro e w1 ⟨rfl, rfl⟩))
        | (go_at_call 52; go_must (refine (Tryd.slices_Compact_int_empty _ _ _).mono ?_; rintro e w1 ⟨rfl, rfl⟩)))
      go_ret
      exact ⟨_, rfl, ⟨none, 0, rfl, Nat.le_refl _, Sl.nil _ _ _ _⟩, Below.refl _ _⟩
    | some ad =>
      go_enter Tryd.func46, Tryd.ntmps46
      go_wp2_with (first
        | (go_at_call 50; go_must (refine (Tryd.slices_Clone_int_zero ad c w).mono ?_; rintro e w1 ⟨v', rfl, hown, hnn, hbl⟩; obtain ⟨A1, c1, rfl, _, hc1, _⟩ := own_reads (enc := Value.int .i64) (xs := []) hown (by omega)))
        | (go_at_call 51; go_must (refine (Tryd.slices_Sort_int_none _ _ _).mono ?_; rintro e w1 ⟨rfl, rfl⟩))
        | (go_at_call 52; go_must (refine (Tryd.slices_Compact_int_empty _ _ _).mono ?_; rintro e w1 ⟨rfl, rfl⟩)))
      go_ret
      exact ⟨_, rfl, ⟨A1, c1, rfl, hc1, Sl.nil _ _ _ _⟩, hbl⟩
  · obtain ⟨b, off, rfl, _⟩ := hl.get1 h0
    have hcells : ∀ j, j < xs.length → w.cell? ⟨b, off + j, none⟩ = some (.int .i64 (xs.getD j 0)) := fun j hj => by
      obtain ⟨b', off', e, hc⟩ := hl.get1 hj
      injection e with e
      injection e with e1 e2
      subst e1 e2
      rw [List.getD_eq_getElem?_getD, List.getElem?_eq_getElem hj]
      exact hI.cell hc
    have hcl := Tryd.slices_Clone_int b off xs.length c xs w (Nat.le_refl _) hb hcells
    rw [List.take_length] at hcl
    have HC := Lib.hid hcl
    clear hcl hcells
    go_enter Tryd.func46, Tryd.ntmps46
    go_wp2_with fail
    refine HC.out.mono ?_
    rintro e w1 ⟨v', rfl, hown, hnn, hbl⟩
    obtain ⟨g, cap, rfl, hgb, hgc, hgl⟩ := own_form1 hown h0
    obtain ⟨cur, _, _, hh, hc1, hcm, hsz, htake⟩ := own_le_cap hown
    simp only [Nat.mul_one] at hsz htake
    have hsort := Tryd.slices_Sort_int g 0 cap xs w1 (holds_of_blockI hh (by simpa using htake)) hgl (by omega)
    have HS := Lib.hid hsort
    have hown2 := fun n os => ownsRow_sortedI (n := n) (os := os) (base := w.heap.size) (ss := xs) (ts := xs.mergeSort fun x y => decide (x ≤ y)) (by simp) hgb hh hc1 hcm (by simpa using hsz)
    have hg2 := fun n os => grownBy_sortedI (w := w1) (g := g) (n := n) (os := os) (xs.mergeSort fun x y => decide (x ≤ y)).toArray
    have H2 := Lib.hid hown2
    have G2 := Lib.hid hg2
    have HE := Lib.hid (set_eq xs)
    have HL := Lib.hid (List.length_mergeSort (le := fun x y : Int => decide (x ≤ y)) xs)
    clear hsort hown2 hg2 hh htake hsz hnn
    generalize (xs.mergeSort fun x y => decide (x ≤ y)) = ys at *
    go_wp2_with fail
    refine HS.out.mono ?_
    rintro e w2 ⟨rfl, n2, os2, hw2⟩
    have h2 := H2.out n2 os2
    have g2 := G2.out n2 os2
    rw [← hw2] at h2 g2
    clear hw2 H2 G2 HS
    have hb2 : RowKit.Below w.heap.size w w2 := hbl.grown g2 hbl.size (fun k hk => by cases hk; exact hgb)
    obtain ⟨cur2, _, _, hh2, _, _, hsz2, htake2⟩ := own_le_cap h2
    simp only [Nat.mul_one] at hsz2 htake2
    have hyl : ys.length = xs.length := HL.out
    have hcomp := Tryd.slices_Compact_int g 0 cap ys w2 (holds_of_blockI hh2 (by rw [hyl]; simpa using htake2)) (by omega) (by omega)
    rw [hyl] at hcomp
    have HCm := Lib.hid hcomp
    have hcle := compact_length_le ys.toArray ys.length
    have hown3 := fun n os => ownsRow_sortedI (n := n) (os := os) (base := w.heap.size) (ss := xs) (ts := Lib.compact ys ++ List.replicate (ys.length - (Lib.compact ys).length) 0) (by simp; unfold Lib.compact; omega) hgb hh2 hc1 hcm (by simpa using hsz2)
    have hg3 := fun n os => grownBy_sortedI (w := w2) (g := g) (n := n) (os := os) (Lib.compact ys ++ List.replicate (ys.length - (Lib.compact ys).length) 0).toArray
    have H3 := Lib.hid hown3
    have G3 := Lib.hid hg3
    have HLE : (Lib.compact ys).length ≤ xs.length := by unfold Lib.compact; omega
    clear hcomp hown3 hg3 hh2 htake2 hsz2 hcle
    rw [hyl] at H3 G3
    rw [HE.out] at H3 G3 HCm HLE
    clear hyl
    go_wp2_with fail
    refine HCm.out.mono ?_
    rintro e w3 ⟨rfl, q, hw3⟩
    have h3 := H3.out q #[]
    have g3 := G3.out q #[]
    rw [grow_empty, ← hw3] at h3 g3
    clear hw3 H3 G3 HCm
    rw [List.map_append] at h3
    have h4 := own_prefix (m := (insAll xs []).length) h3 HLE (by simp)
    have hb3 : RowKit.Below w.heap.size w w3 := hb2.grown g3 hb2.size (fun k hk => by cases hk; exact hgb)
    go_wp2
    go_ret
    refine ⟨_, rfl, own_Sl1 h4 (Nat.le_refl _) rfl (by omega), hb3⟩
end Go.Proofs.YteoeahmfpohpeaaDoor
