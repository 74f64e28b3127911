/- Walks: lodestarref16.Ids. -/
import Derived.Test.YteoeahmfpohpeaaDoorWalkL
namespace Go.Proofs.YteoeahmfpohpeaaDoor
open Go.RowKit Go.Shelf
set_option maxRecDepth 100000
set_option linter.unusedVariables false
set_option linter.unusedSimpArgs false

def rhits (c : Cond) (l : List Pt) : List Int := insAll (hits c l) []
theorem rhits_succ {c : Cond} {l : List Pt} {k : Nat} (hk : k < l.length) : rhits c (l.take (k + 1)) = if passes l[k].flds c then ins l[k].id (rhits c (l.take k)) else rhits c (l.take k) := by
  unfold rhits
  rw [hits_succ hk]
  split
  · unfold insAll; rw [List.foldl_append]; rfl
  · rfl
theorem rhits_length_le (c : Cond) (l : List Pt) : (rhits c l).length ≤ l.length := by
  have h := insAll_length_le (hits c l) []
  have := hits_length_le c l
  unfold rhits
  simp at h
  omega
theorem rhits_rising (c : Cond) (l : List Pt) : Rising (rhits c l) := insAll_rising List.Pairwise.nil

theorem put_below {w0 wr w1 w2 : World} {row : Option Nat} (hX : Below wr.heap.size wr w1) (hB : Below w0.heap.size w0 wr) (hg : w1.grownBy w2 row) (hr : ∀ k, row = some k → w0.heap.size + 1 ≤ k) : Below w0.heap.size w0 w2 :=
  (below_step hX hB).grown hg (below_step hX hB).size (fun k hk => by have := hr k hk; omega)

set_option maxHeartbeats 2000000 in
theorem rids_calls (H : PH) (n : Nat) (w : World) (c : Cond) (cs : List Value) (l : List Pt) (A : Option Addr) (cap : Nat) (hI : In H w) (hc : RC H n c cs) (hl : Sl (RPt H) 3 H A l) (hb : (l.length + 1) * 8 ≤ 140737488355328) :
    Calls Tryd.prog 8 #[.agg cs.toArray, .slice A l.length cap] w fun e w' => ∃ v', e = .returned v' ∧ RSl RI 1 (plus noPH w w') (rhits c l) v' ∧ Below w.heap.size w w' := by
  have hm := hl.le
  have HCc := hc
  obtain ⟨k0, nm, v0, lo, hi, A0, m0, c0, rfl⟩ := hc.form
  go_enter Tryd.func8, Tryd.ntmps8
  go_wp2
  have HB0 := below_allocS (Below.refl w.heap.size w) (.cells (cCells k0 nm v0 lo hi (.slice A0 m0 c0)).toArray 26)
  have K0 := Blk.new w (cCells k0 nm v0 lo hi (.slice A0 m0 c0)) 26
  go_loopw [5, 6] (fun v5 v6 W => ∃ k : Nat, k ≤ l.length ∧ v6 = .int .i64 k ∧ W.ownsRow (w.heap.size + 1) 3 1 v5 (rhits c (l.take k)).length ((rhits c (l.take k)).map (Value.int .i64)) ∧ Blk W w.heap.size (cCells k0 nm v0 lo hi (.slice A0 m0 c0)) ∧ Below w.heap.size w W) (fun _ v6 _ => l.length - (intOf v6).toNat)
  case atStart => exact ⟨0, by omega, rfl, World.ownsRow_nil _ _ _ _, K0, HB0⟩
  case round =>
    obtain ⟨k, hk, rfl, HO, HK, HB⟩ := hrel
    clear HB0 K0
    by_cases hlt : k < l.length
    · obtain ⟨b, off, ps, rfl, hR, hcell⟩ := hl.get hlt
      have hcall := fun W (hW : In H W) => rpasses_calls H l[k] ps hR n c _ W hW HCc
      obtain ⟨A1, n1, c1, A2, n2, c2, rfl⟩ := hR.form
      have hc0 := rdW0 hI HB (hcell 0 _ rfl)
      have hc1 := rdW hI HB (hcell 1 _ rfl)
      have hc2 := rdW hI HB (hcell 2 _ rfl)
      have q0 := HK.cell 0 rfl
      have q1 := HK.cell 1 rfl
      have q2 := HK.cell 2 rfl
      have q3 := HK.cell 3 rfl
      have q4 := HK.cell 4 rfl
      have q5 := HK.cell 5 rfl
      have q6 := HK.cell 6 rfl
      have q7 := HK.cell 7 rfl
      have ql := HK.lt
      have HO' := Lib.hid HO
      have hsucc := Lib.hid (rhits_succ (c := c) hlt)
      have hle := rhits_length_le c (l.take k)
      have hle2 : (l.take k).length ≤ k := List.length_take_le _ _
      obtain ⟨A5, c5, hv5, _⟩ := own_slice HO
      clear HO
      subst hv5
      have hlt1 : (k : Int) < l.length := by omega
      cases hpk : passes l[k].flds c
      · rw [hpk] at hcall
        go_wp2
        refine wp_region_still_tail 5 (by kernel_rfl) (by kernel_rfl) ?_
        simp only [List.take_succ_cons, List.take_zero, List.drop_succ_cons, List.drop_zero]
        repeat still_step
        refine wpStill_nil ?_
        go_wp2_with (go_at_call 19; go_must (refine (hcall _ (hI.below (by repeat (first | exact HB | refine Below.drew ?_)))).mono ?_; rintro e w1 ⟨rfl, hb1⟩; have HX : Below wr.heap.size wr w1 := below_step hb1 (by repeat (first | exact Below.refl _ _ | refine Below.drew ?_))))
        go_roundw
        case rel => exact ⟨k + 1, by omega, by go_num, by rw [hsucc.out, hpk]; exact own_below HO'.out HX, HK.below HX, below_step HX HB⟩
        case measure => simp [intOf]; omega
      · rw [hpk] at hcall
        go_wp2
        refine wp_region_still_tail 5 (by kernel_rfl) (by kernel_rfl) ?_
        simp only [List.take_succ_cons, List.take_zero, List.drop_succ_cons, List.drop_zero]
        repeat still_step
        refine wpStill_nil ?_
        have hs := HB.size
        go_wp2_with (first
          | (go_at_call 19; go_must (refine (hcall _ (hI.below (by repeat (first | exact HB | refine Below.drew ?_)))).mono ?_; rintro e w1 ⟨rfl, hb1⟩; have HX : Below wr.heap.size wr w1 := below_step hb1 (by repeat (first | exact Below.refl _ _ | refine Below.drew ?_)); have hc0' := rdW0 hI (below_step HX HB) (hcell 0 _ rfl)))
          | (go_at_call 20; go_must (refine (put_calls _ (w.heap.size + 1) _ _ _ (own_below HO'.out HX) (by have := HX.size; omega) (rhits_rising c (l.take k)) (by omega)).mono ?_; rintro e w2 ⟨v', rfl, hown, hg, hat⟩; have HR3 := Lib.hid hown; clear hown; have hg' := Lib.hid hg; clear hg hat)))
        have hrb := fun k hk => own_base HO'.out k hk
        go_roundw
        case rel =>
          refine ⟨k + 1, by omega, by go_num, ?_, (HK.below HX).grown hg'.out (fun k hk => by have := hrb k hk; omega), put_below HX HB hg'.out hrb⟩
          rw [hsucc.out, hpk]
          exact HR3.out
        case measure => simp [intOf]; omega
    · obtain rfl : k = l.length := by omega
      rw [List.take_length] at HO
      have hle := rhits_length_le c l
      have HO' := Lib.hid HO
      obtain ⟨A5, c5, rfl, hl5, hc5, hs5⟩ := own_reads HO (by omega)
      clear HO
      go_wp2
      go_ret
      exact ⟨_, rfl, own_Sl1 HO'.out (by omega) rfl (by omega), HB⟩
end Go.Proofs.YteoeahmfpohpeaaDoor
