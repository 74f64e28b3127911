/- Walks: the statement's function FilterIds. -/
import Derived.Test.YteoeahmfpohpeaaDoorWalkQ
namespace Go.Proofs.YteoeahmfpohpeaaDoor
open Go.RowKit Go.Shelf
set_option maxRecDepth 100000
set_option linter.unusedVariables false
set_option linter.unusedSimpArgs false

set_option maxHeartbeats 4000000 in
theorem law_ids (H : PH) (n : Nat) (w : World) (c : Cond) (cs : List Value) (l : List Pt) (A : Option Addr) (cap : Nat) (hI : In H w) (hc : RC H n c cs) (hl : Sl (RPt H) 3 H A l) (hb : (l.length + 1) * 8 ≤ 140737488355328) :
    Calls Tryd.prog 3 #[.agg cs.toArray, .slice A l.length cap] w fun e w' => e = .returned (.bool true) ∧ Below w.heap.size w w' := by
  have k1 := Lib.hid (fun W hW => fids_calls H n W c cs l A cap hW hc hl (by omega))
  have k2 := Lib.hid (fun W hW => rids_calls H n W c cs l A cap hW hc hl hb)
  obtain ⟨k0, nm, v0, lo, hi, A0, m0, c0, rfl⟩ := hc.form
  go_enter Tryd.func3, Tryd.ntmps3
  go_wp2
  go_region_held3 (fun w' => w'.cell? ⟨w.heap.size, 0, none⟩ = some (.int .i64 k0) ∧ w'.cell? ⟨w.heap.size, 1, none⟩ = some (.string nm) ∧ w'.cell? ⟨w.heap.size, 2, none⟩ = some (.int .i64 v0.kind) ∧ w'.cell? ⟨w.heap.size, 3, none⟩ = some (.int .i64 v0.n) ∧ w'.cell? ⟨w.heap.size, 4, none⟩ = some (.string v0.text) ∧ w'.cell? ⟨w.heap.size, 5, none⟩ = some (.int .i64 lo) ∧ w'.cell? ⟨w.heap.size, 6, none⟩ = some (.int .i64 hi) ∧ w'.cell? ⟨w.heap.size, 7, none⟩ = some (.slice A0 m0 c0)) (go_keep)
    (first
      | (go_at_call 7; refine (k1.out _ (hI.below (by repeat (first | exact Below.refl _ _ | refine below_allocS ?_ _ | refine Below.drew ?_)))).mono ?_; rintro e w1 ⟨v1, rfl, hv1, hb1⟩; obtain ⟨hc1, hf1⟩ := bcell hb1; have HB1 : Below w.heap.size w w1 := below_step (w := w) hb1 (by repeat (first | exact Below.refl _ _ | refine below_allocS ?_ _ | refine Below.drew ?_)); have hz1 : w.heap.size < w1.heap.size := Nat.lt_of_lt_of_le (by simp) hb1.size; obtain ⟨A1, c1, rfl, hn1, hs1⟩ := hv1; have HS1 := Lib.hid hs1; clear hs1)
      | (go_at_call 8; refine (k2.out _ (hI.below (by assumption))).mono ?_; rintro e w2 ⟨v2, rfl, hv2, hb2⟩; obtain ⟨hc2, hf2⟩ := bcell hb2; have HB2 : Below w.heap.size w w2 := below_step (w := w) hb2 (by assumption); have hz2 : w.heap.size < w2.heap.size := Nat.lt_of_lt_of_le hz1 hb2.size; obtain ⟨A2, c2, rfl, hn2, hs2⟩ := hv2; have HS2 := Lib.hid hs2; clear hs2; have hb2' := Lib.hid hb2; clear hb2)
      | (go_at_call 6; refine (same08_calls (plus noPH w w2) _ A1 A2 c1 c2 _ _ (In.plus (fun b o h => by cases h) HB2) (HS1.out.mono (plus_le (by simp) hb2'.out) (fun _ _ _ h => h)) (HS2.out.mono (plus_le (by omega) (Below.refl _ _)) (fun _ _ _ h => h))).mono ?_; rintro e w3 ⟨rfl, hb3⟩; rw [show decide (insAll (hits c l) [] = rhits c l) = true from decide_eq_true rfl]; obtain ⟨hc3, hf3⟩ := bcell hb3; have HB3 : Below w.heap.size w w3 := below_step (w := w) hb3 HB2; have hz3 : w.heap.size < w3.heap.size := Nat.lt_of_lt_of_le hz2 hb3.size)
      | (go_at_call 9; refine (sure_calls _).mono ?_; rintro e w4 ⟨rfl, hb4⟩; obtain ⟨hc4, hf4⟩ := bcell hb4; have HB4 : Below w.heap.size w w4 := below_step (w := w) hb4 HB3; have hz4 : w.heap.size < w4.heap.size := Nat.lt_of_lt_of_le hz3 hb4.size))
  go_wp2
  go_ret
  exact ⟨rfl, HB4⟩
end Go.Proofs.YteoeahmfpohpeaaDoor
