/- Walks: filter.Ids. -/
import Derived.Test.YteoeahmfpohpeaaDoorWalkI
namespace Go.Proofs.YteoeahmfpohpeaaDoor
open Go.RowKit Go.Shelf
set_option maxRecDepth 100000
set_option linter.unusedVariables false
set_option linter.unusedSimpArgs false

def hits (c : Cond) (l : List Pt) : List Int := (l.filter fun p => passes p.flds c).map (·.id)
theorem hits_succ {c : Cond} {l : List Pt} {k : Nat} (hk : k < l.length) : hits c (l.take (k + 1)) = if passes l[k].flds c then hits c (l.take k) ++ [l[k].id] else hits c (l.take k) := by
  rw [List.take_succ_eq_append_getElem hk]
  unfold hits
  rw [List.filter_append, List.map_append]
  by_cases h : passes l[k].flds c <;> simp [h]
theorem hits_length_le (c : Cond) (l : List Pt) : (hits c l).length ≤ l.length := by unfold hits; rw [List.length_map]; exact List.length_filter_le _ _

theorem RPt.form {H : PH} {p : Pt} {ps : List Value} (h : RPt H p ps) : ∃ A1 n1 c1 A2 n2 c2, ps = [.int .i64 p.id, .slice A1 n1 c1, .slice A2 n2 c2] := by
  obtain ⟨V, F, rfl, ⟨A1, c1, rfl, _⟩, ⟨A2, c2, rfl, _⟩⟩ := h
  exact ⟨A1, _, c1, A2, _, c2, rfl⟩

set_option maxHeartbeats 2000000 in
theorem fids_calls (H : PH) (n : Nat) (w : World) (c : Cond) (cs : List Value) (l : List Pt) (A : Option Addr) (cap : Nat) (hI : In H w) (hc : RC H n c cs) (hl : Sl (RPt H) 3 H A l) (hb : l.length * 8 ≤ 140737488355328) :
    Calls Tryd.prog 7 #[.agg cs.toArray, .slice A l.length cap] w fun e w' => ∃ v', e = .returned v' ∧ RSl RI 1 (plus noPH w w') (insAll (hits c l) []) v' ∧ Below w.heap.size w w' := by
  have hm := hl.le
  have HCc := hc
  obtain ⟨k0, nm, v0, lo, hi, A0, m0, c0, rfl⟩ := hc.form
  go_enter Tryd.func7, Tryd.ntmps7
  go_wp2
  have HB0 := below_allocS (Below.refl w.heap.size w) (.cells (cCells k0 nm v0 lo hi (.slice A0 m0 c0)).toArray 26)
  have K0 := Blk.new w (cCells k0 nm v0 lo hi (.slice A0 m0 c0)) 26
  go_loopw [5, 10] (fun v5 v10 W => ∃ k : Nat, k ≤ l.length ∧ v10 = .int .i64 k ∧ W.ownsRow (w.heap.size + 1) 3 1 v5 (hits c (l.take k)).length ((hits c (l.take k)).map (Value.int .i64)) ∧ Blk W w.heap.size (cCells k0 nm v0 lo hi (.slice A0 m0 c0)) ∧ Below w.heap.size w W) (fun _ v10 _ => l.length - (intOf v10).toNat)
  case atStart => exact ⟨0, by omega, rfl, World.ownsRow_nil _ _ _ _, K0, HB0⟩
  case round =>
    obtain ⟨k, hk, rfl, HO, HK, HB⟩ := hrel
    clear HB0 K0
    by_cases hlt : k < l.length
    · obtain ⟨b, off, ps, rfl, hR, hcell⟩ := hl.get hlt
      have hcall := fun W (hW : In H W) => passes_calls H l[k] ps hR n c _ W hW HCc
      obtain ⟨A1, n1, c1, A2, n2, c2, rfl⟩ := hR.form
      have hc0 := rdW0 hI HB (hcell 0 _ rfl)
      have hc1 := rdW hI HB (hcell 1 _ rfl)
      have hc2 := rdW hI HB (hcell 2 _ rfl)
      have q0 := HK.cell 0 rfl
      have q1 := HK.cell 1 rfl
      have q2 := HK.cell 2 rfl
      have q3 := HK.cell 3 rfl
      have q4 := HK.cell 4 rfl
      have q5 := HK.cell 5 rfl
      have q6 := HK.cell 6 rfl
      have q7 := HK.cell 7 rfl
      have ql := HK.lt
      have HO' := Lib.hid HO
      have hsucc := Lib.hid (hits_succ (c := c) hlt)
      have hle := hits_length_le c (l.take k)
      have hle2 : (l.take k).length ≤ k := List.length_take_le _ _
      clear HO
      cases hpk : passes l[k].flds c
      · rw [hpk] at hcall
        go_wp2_with (go_at_call 10; go_must (refine (hcall _ (hI.below (by repeat (first | exact HB | refine below_allocS ?_ _ | refine Below.setCell ?_ (by have := HB.size; simp; omega) _)))).mono ?_; rintro e w1 ⟨rfl, hb1⟩; have HX : Below wr.heap.size wr w1 := below_step hb1 (by repeat (first | exact Below.refl _ _ | refine below_allocS ?_ _ | refine Below.setCell ?_ (by simp) _))))
        go_roundw
        case rel => exact ⟨k + 1, by omega, by go_num, by rw [hsucc.out, hpk]; exact own_below HO'.out HX, HK.below HX, below_step HX HB⟩
        case measure => simp [intOf]; omega
      · rw [hpk] at hcall
        go_wp2_with (first
          | (go_at_call 10; go_must (refine (hcall _ (hI.below (by repeat (first | exact HB | refine below_allocS ?_ _ | refine Below.setCell ?_ (by have := HB.size; simp; omega) _)))).mono ?_; rintro e w1 ⟨rfl, hb1⟩; have HX : Below wr.heap.size wr w1 := below_step hb1 (by repeat (first | exact Below.refl _ _ | refine below_allocS ?_ _ | refine Below.setCell ?_ (by simp) _)); obtain ⟨hcc, hff⟩ := bcell hb1; have hz : wr.heap.size < w1.heap.size := by have := hb1.size; simp at this; omega))
          | (at_builtin; go_must (refine app_new (W := w1) (w.heap.size + 1) rfl (.tmp 17) (.tmp 20) 29 3 (.int .i64 0) 1 8 rfl Tryd.underlying29 Tryd.infoInt rfl (by decide) (by decide) _ _ _ [.int .i64 l[k].id] rfl rfl rfl (by simp [Value.oneCell']) (own_below HO'.out HX) (by have := HX.size; omega) (by omega) ?_; intro g cap1 w3 hown1 hg1 hat1; have HR3 := Lib.hid hown1; clear hown1)))
        have hrb := fun k hk => own_base HO'.out k hk
        go_roundw
        case rel =>
          refine ⟨k + 1, by omega, by go_num, ?_, (HK.below HX).grown hg1 (fun k hk => by have := hrb k hk; omega), (below_step HX HB).grown hg1 (below_step HX HB).size (fun k hk => by have := hrb k hk; omega)⟩
          rw [hsucc.out, hpk]
          have := HR3.out
          simpa using this
        case measure => simp [intOf]; omega
    · obtain rfl : k = l.length := by omega
      rw [List.take_length] at HO
      have hle := hits_length_le c l
      obtain ⟨A5, c5, rfl, hl5, hc5, hs5⟩ := own_reads HO (by omega)
      go_wp2_with fail
      refine (union_calls (hp wr) wr A5 c5 (hits c l) (In.hp _) hs5 (by omega)).mono ?_
      rintro e w1 ⟨v', rfl, hv', hb1⟩
      go_wp2
      go_ret
      refine ⟨_, rfl, hv'.mono (fun b o h => ?_) (fun _ _ _ h => h), below_step hb1 HB⟩
      have := HB.size
      unfold plus at *
      split at h
      · cases h
      · rw [if_neg (by omega)]; exact h
end Go.Proofs.YteoeahmfpohpeaaDoor
