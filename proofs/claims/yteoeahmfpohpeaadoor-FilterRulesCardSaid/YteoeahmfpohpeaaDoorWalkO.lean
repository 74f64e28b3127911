/- Walks: filter.Same at one condition, laid in two places. -/
import Derived.Test.YteoeahmfpohpeaaDoorWalkN
namespace Go.Proofs.YteoeahmfpohpeaaDoor
open Go.RowKit Go.Shelf
set_option maxRecDepth 100000
set_option linter.unusedVariables false
set_option linter.unusedSimpArgs false

set_option maxHeartbeats 2000000 in
theorem same_self (H : PH) : ∀ n c cs cs' w, In H w → RC H n c cs → RC H n c cs' → Calls Tryd.prog 24 #[.agg cs.toArray, .agg cs'.toArray] w fun e w' => e = .returned (.bool true) ∧ Below w.heap.size w w' := by
  intro n
  induction n with
  | zero => intro c cs cs' w _ h; exact h.elim
  | succ n ih =>
    intro c cs cs' w hI h h'
    obtain ⟨k, nm, v, lo, hi, l, L, rfl, rfl, A, cp, rfl, _, hl⟩ := h.open
    obtain ⟨_, _, _, _, _, _, L', e, rfl, A', cp', rfl, _, hl'⟩ := h'.open
    cases e
    have hm := hl.le
    have IH := Lib.hid ih
    have ht1 : (nm.toList == nm.toList) = true := by simp
    have ht2 : (v.text.toList == v.text.toList) = true := by simp
    clear ih h h'
    go_enter Tryd.func24, Tryd.ntmps24
    go_wp2
    have HB0 := below_allocS (below_allocS (Below.refl w.heap.size w) (.cells (cCells k nm v lo hi (.slice A l.length cp)).toArray 26)) (.cells (cCells k nm v lo hi (.slice A' l.length cp')).toArray 26)
    have K0 := (Blk.new w (cCells k nm v lo hi (.slice A l.length cp)) 26).alloc (.cells (cCells k nm v lo hi (.slice A' l.length cp')).toArray 26)
    have P0 := Blk.new (w.alloc (.cells (cCells k nm v lo hi (.slice A l.length cp)).toArray 26)) (cCells k nm v lo hi (.slice A' l.length cp')) 26
    rw [World.size_alloc] at P0
    go_loopw [51] (fun v51 W => ∃ j : Nat, j ≤ l.length ∧ v51 = .int .i64 j ∧ Below w.heap.size w W ∧ Blk W w.heap.size (cCells k nm v lo hi (.slice A l.length cp)) ∧ Blk W (w.heap.size + 1) (cCells k nm v lo hi (.slice A' l.length cp'))) (fun v51 _ => l.length - (intOf v51).toNat)
    case atStart => exact ⟨0, by omega, rfl, HB0, K0, P0⟩
    case round =>
      obtain ⟨j, hj, rfl, HB, HC, HP⟩ := hrel
      clear HB0 K0 P0
      have hq5 := HC.cell 7 rfl
      have hp5 := HP.cell 7 rfl
      have hql := HC.lt
      have hpl := HP.lt
      by_cases hlt : j < l.length
      · obtain ⟨b, off, cs, rfl, hR, hcell⟩ := hl.get hlt
        obtain ⟨b', off', cs', rfl, hR', hcell'⟩ := hl'.get hlt
        have hcall := fun W (hW : In H W) => IH.out _ _ _ W hW hR hR'
        obtain ⟨k1, nm1, v1, lo1, hi1, A1, m1, c1, rfl⟩ := hR.form
        obtain ⟨k2, nm2, v2, lo2, hi2, A2, m2, c2, rfl⟩ := hR'.form
        have hc0 := rdW0 hI HB (hcell 0 _ rfl)
        have hc1 := rdW hI HB (hcell 1 _ rfl)
        have hc2 := rdW hI HB (hcell 2 _ rfl)
        have hc3 := rdW hI HB (hcell 3 _ rfl)
        have hc4 := rdW hI HB (hcell 4 _ rfl)
        have hc5 := rdW hI HB (hcell 5 _ rfl)
        have hc6 := rdW hI HB (hcell 6 _ rfl)
        have hc7 := rdW hI HB (hcell 7 _ rfl)
        have hd0 := rdW0 hI HB (hcell' 0 _ rfl)
        have hd1 := rdW hI HB (hcell' 1 _ rfl)
        have hd2 := rdW hI HB (hcell' 2 _ rfl)
        have hd3 := rdW hI HB (hcell' 3 _ rfl)
        have hd4 := rdW hI HB (hcell' 4 _ rfl)
        have hd5 := rdW hI HB (hcell' 5 _ rfl)
        have hd6 := rdW hI HB (hcell' 6 _ rfl)
        have hd7 := rdW hI HB (hcell' 7 _ rfl)
        have hlt1 : (j : Int) < l.length := by omega
        go_wp2
        refine wp_region_still_tail 10 (by kernel_rfl) (by kernel_rfl) ?_
        simp only [List.take_succ_cons, List.take_zero, List.drop_succ_cons, List.drop_zero]
        repeat still_step
        refine wpStill_nil ?_
        go_wp2_with (go_at_call 24; go_must (refine (hcall _ (hI.below (by repeat (first | exact HB | refine Below.drew ?_)))).mono ?_; rintro e w2 ⟨rfl, hb2⟩; have HX : Below wr.heap.size wr w2 := below_step hb2 (by repeat (first | exact Below.refl _ _ | refine Below.drew ?_))))
        go_roundw
        case rel => exact ⟨j + 1, by omega, by go_num, below_step HX HB, HC.below HX, HP.below HX⟩
        case measure => simp [intOf]; omega
      · go_wp2
        go_ret
        exact ⟨rfl, HB⟩
end Go.Proofs.YteoeahmfpohpeaaDoor
