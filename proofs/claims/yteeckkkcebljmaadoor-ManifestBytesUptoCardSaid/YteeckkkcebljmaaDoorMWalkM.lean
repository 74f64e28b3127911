/- Walks: the document's Decode. -/
import Derived.Test.YteeckkkcebljmaaDoorMWalkL
namespace Go.Proofs.YteeckkkcebljmaaDoor
open Go.RowKit Go.Shelf Go.Sort
set_option maxRecDepth 100000
set_option linter.unusedVariables false
set_option linter.unusedSimpArgs false

theorem upTo10_le : ∀ {s x r : Str}, upTo10 s = some (x, r) → x.length ≤ s.length ∧ r.length ≤ s.length := fun h => by
  have := upTo10_len h
  omega
theorem word_le (s b : Str) : (word s b).1.length ≤ s.length ∧ (word s b).2.1.length ≤ s.length := by
  unfold word
  split
  · split
    · rename_i h
      have := upTo10_le h
      simp at this
      exact ⟨by simp; omega, by simp; omega⟩
    · simp
  · simp
theorem segsGo_le : ∀ (n : Nat) (s : Str), (segsGo n s).length ≤ s.length ∧ ∀ x ∈ segsGo n s, x.length ≤ s.length
  | 0, _ => by simp [segsGo]
  | n + 1, s => by
    unfold segsGo
    split
    · rename_i x r hw
      have h1 := word_len hw
      have h2 := word_le s wSegm
      rw [hw] at h2
      obtain ⟨h3, h4⟩ := segsGo_le n r
      refine ⟨by simp; omega, fun y hy => ?_⟩
      rcases List.mem_cons.1 hy with rfl | hy
      · exact h2.1
      · have := h4 y hy; omega
    · simp
def measR (v5 v14 : Value) : Nat := match v5, v14 with
  | .string t, .bool true => t.size + 1
  | _, _ => 0
/-- The names still to come. -/
def toCome (more : Bool) (t : Str) : List ByteArray := if more then (segsOf t).map toB else []
theorem resP_R (s : Str) : resP s = match decR s with | some m => (m, 0) | none => (Man.zero, 110) := by unfold resP; rw [dec_eq]; rfl
theorem resR_none {s : Str} (h : decR s = none) : resP s = (Man.zero, 110) := by rw [resP_R, h]
theorem resR_some {s : Str} {m : Man} (h : decR s = some m) : resP s = (m, 0) := by rw [resP_R, h]
set_option maxHeartbeats 4000000 in
theorem rdec_calls (H : PH) (w : World) (hI : In H w) (s : ByteArray) (hs : s.size ≤ 3000000) :
    Calls Tryd.prog 8 #[.string s] w fun e w' => (∃ A c, e = .returned (.tuple #[.agg (mcells A c (resP (bl s)).1), .int .i64 (resP (bl s)).2]) ∧ Sl RS 1 (hp w') A (resP (bl s)).1.segs) ∧ Below w.heap.size w w' := by
  obtain ⟨⟨x1, r1, f1⟩, hp1⟩ : ∃ x, x = p1 (bl s) := ⟨_, rfl⟩
  obtain ⟨⟨x2, r2, f2⟩, hp2⟩ : ∃ x, x = p2 (bl s) := ⟨_, rfl⟩
  obtain ⟨⟨x3, r3, f3⟩, hp3⟩ : ∃ x, x = p3 (bl s) := ⟨_, rfl⟩
  obtain ⟨⟨x4, r4, f4⟩, hp4⟩ : ∃ x, x = p4 (bl s) := ⟨_, rfl⟩
  obtain ⟨M, hM⟩ : ∃ M, M = parseR (bl s) := ⟨_, rfl⟩
  have hls := bl_length s
  have l1 := word_le (bl s) wLode
  have hp1' : word (bl s) wLode = (x1, r1, f1) := hp1.symm
  rw [hp1'] at l1
  have hp2' : word r1 wNext = (x2, r2, f2) := by rw [hp2]; unfold p2; rw [← hp1]
  have l2 := word_le r1 wNext
  rw [hp2'] at l2
  have hp3' : word r2 wSeq = (x3, r3, f3) := by rw [hp3]; unfold p3; rw [← hp2]
  have l3 := word_le r2 wSeq
  rw [hp3'] at l3
  have hp4' : word r3 wLog = (x4, r4, f4) := by rw [hp4]; unfold p4; rw [← hp3]
  have l4 := word_le r3 wLog
  rw [hp4'] at l4
  simp only at l1 l2 l3 l4
  have hflags : Hid (flagsR (bl s) = (f1 && f2 && f3 && f4)) := Lib.hid (by unfold flagsR; rw [← hp1, ← hp2, ← hp3, ← hp4])
  have hMs : Hid (M.segs = toCome true r4) := Lib.hid (by rw [hM]; unfold parseR; rw [← hp4]; rfl)
  have hMn : numR x2 = M.next := by rw [hM]; unfold parseR; rw [← hp2]
  have hMq : numR x3 = M.seq := by rw [hM]; unfold parseR; rw [← hp3]
  have hMl : toB x4 = M.log := by rw [hM]; unfold parseR; rw [← hp4]
  have hdec : Hid (decR (bl s) = if (f1 && f2 && f3 && f4) = true ∧ mayB M = true ∧ text M = bl s then some M else none) := Lib.hid (by
    unfold decR
    rw [hflags.out, ← hM])
  have kW1 := Lib.hid (fun W => word_calls W s ⟨#[108, 111, 100, 101, 115, 116, 97, 114, 32, 49]⟩ (by omega) (by decide))
  have kW2 := Lib.hid (fun W => word_calls W (toB r1) ⟨#[110, 101, 120, 116, 32]⟩ (by rw [size_toB]; omega) (by decide))
  have kW3 := Lib.hid (fun W => word_calls W (toB r2) ⟨#[115, 101, 113, 32]⟩ (by rw [size_toB]; omega) (by decide))
  have kW4 := Lib.hid (fun W => word_calls W (toB r3) ⟨#[108, 111, 103, 32]⟩ (by rw [size_toB]; omega) (by decide))
  have e1 : word (bl s) (bl ⟨#[108, 111, 100, 101, 115, 116, 97, 114, 32, 49]⟩) = (x1, r1, f1) := hp1'
  have e2 : word (bl (toB r1)) (bl ⟨#[110, 101, 120, 116, 32]⟩) = (x2, r2, f2) := by rw [bl_toB]; exact hp2'
  have e3 : word (bl (toB r2)) (bl ⟨#[115, 101, 113, 32]⟩) = (x3, r3, f3) := by rw [bl_toB]; exact hp3'
  have e4 : word (bl (toB r3)) (bl ⟨#[108, 111, 103, 32]⟩) = (x4, r4, f4) := by rw [bl_toB]; exact hp4'
  rw [e1] at kW1
  rw [e2] at kW2
  rw [e3] at kW3
  rw [e4] at kW4
  unfold wordV at kW1 kW2 kW3 kW4
  simp only at kW1 kW2 kW3 kW4
  rw [hMl] at kW4
  have kN1 := Lib.hid (fun W => rnumber_calls W (toB x2) (by rw [size_toB]; omega))
  have kN2 := Lib.hid (fun W => rnumber_calls W (toB x3) (by rw [size_toB]; omega))
  rw [bl_toB, hMn] at kN1
  rw [bl_toB, hMq] at kN2
  have zl : M.log.size ≤ s.size := by rw [← hMl, size_toB]; omega
  have hsl := segsGo_le (r4.length + 1) r4
  have hcnt : M.segs.length ≤ s.size := by rw [hMs.out]; unfold toCome segsOf; simp; omega
  have hsz : Hid (∀ x ∈ M.segs, x.size ≤ 140737488355328) := Lib.hid (fun x hx => by
    rw [hMs.out] at hx
    unfold toCome segsOf at hx
    simp only [if_true] at hx
    obtain ⟨y, hy, rfl⟩ := List.mem_map.1 hx
    have := hsl.2 y hy
    rw [size_toB]
    omega)
  have lr4 : r4.length ≤ s.size := by omega
  obtain ⟨b1, hb1⟩ : ∃ x, x = toB r1 := ⟨_, rfl⟩
  obtain ⟨b2, hb2⟩ : ∃ x, x = toB r2 := ⟨_, rfl⟩
  obtain ⟨b3, hb3⟩ : ∃ x, x = toB r3 := ⟨_, rfl⟩
  obtain ⟨y1, hy1⟩ : ∃ x, x = toB x1 := ⟨_, rfl⟩
  obtain ⟨y2, hy2⟩ : ∃ x, x = toB x2 := ⟨_, rfl⟩
  obtain ⟨y3, hy3⟩ : ∃ x, x = toB x3 := ⟨_, rfl⟩
  rw [← hb1, ← hy1] at kW1
  rw [← hb1, ← hb2, ← hy2] at kW2
  rw [← hb2, ← hb3, ← hy3] at kW3
  rw [← hb3] at kW4
  rw [← hy2] at kN1
  rw [← hy3] at kN2
  clear hp1 hp2 hp3 hp4 hp1' hp2' hp3' hp4' l1 l2 l3 l4 e1 e2 e3 e4 hMn hMq hMl hM hsl hls hb1 hb2 hb3 hy1 hy2 hy3
  have HB0 : Below w.heap.size w (w.alloc (.cells #[.slice none 0 0, .string ⟨#[]⟩, .int .i64 0, .int .i64 0] 24)) := below_allocS (Below.refl _ _) _
  have Kr0 := Blk.new w [.slice none 0 0, .string ⟨#[]⟩, .int .i64 0, .int .i64 0] 24
  have tk1 := Lib.hid True.intro
  have tk2 := Lib.hid True.intro
  have tk3 := Lib.hid True.intro
  have tk4 := Lib.hid True.intro
  go_enter Tryd.func8, Tryd.ntmps8
  go_wp2_with (first
    | (clear tk1; go_at_call 20; go_must (refine (kW1.out _).mono ?_; rintro e w1 ⟨rfl, hb⟩; have HB1 := below_step hb HB0; have Kr1 := Kr0.below hb; clear hb))
    | (clear tk2; go_at_call 20; go_must (refine (kW2.out _).mono ?_; rintro e w2 ⟨rfl, hb⟩; have HB2 := below_step hb HB1; have Kr2 := Kr1.below hb; clear hb))
    | (clear tk3; go_at_call 20; go_must (refine (kW3.out _).mono ?_; rintro e w3 ⟨rfl, hb⟩; have HB3 := below_step hb HB2; have Kr3 := Kr2.below hb; clear hb))
    | (go_at_call 20; go_must (refine (kW4.out _).mono ?_; rintro e w4 ⟨rfl, hb⟩; have HB4 := below_step hb HB3; have Kr4 := Kr3.below hb; clear hb))
    | (clear tk4; go_at_call 21; go_must (refine (kN1.out _).mono ?_; rintro e w' ⟨rfl, rfl⟩))
    | (go_at_call 21; go_must (refine (kN2.out _).mono ?_; rintro e w' ⟨rfl, rfl⟩)))
  have K5m := Blk.new w4 [.slice none 0 0, .string M.log, .int .i64 M.next, .int .i64 M.seq] 24
  have K5r := Kr4.alloc (.cells #[.slice none 0 0, .string M.log, .int .i64 M.next, .int .i64 M.seq] 24)
  have HB5 : Below w.heap.size w (w4.alloc (.cells #[.slice none 0 0, .string M.log, .int .i64 M.next, .int .i64 M.seq] 24)) := below_allocS HB4 _
  have hwz := Kr4.lt
  clear HB0 HB1 HB2 HB3 Kr0 Kr1 Kr2 Kr3 kW1 kW2 kW3 kW4 kN1 kN2
  go_loopw [5, 14, 15, 16, 17] (fun v5 v14 _ _ _ W => ∃ (t : Str) (more : Bool) (l : List ByteArray) (v : Value), v5 = .string (toB t) ∧ v14 = .bool more ∧ t.length ≤ s.size ∧ Hid (M.segs = l ++ toCome more t) ∧ Blk W w4.heap.size [v, .string M.log, .int .i64 M.next, .int .i64 M.seq] ∧ W.ownsRow (w4.heap.size + 1) 9 1 v l.length (l.map Value.string) ∧ Blk W w.heap.size [.slice none 0 0, .string ⟨#[]⟩, .int .i64 0, .int .i64 0] ∧ Below w.heap.size w W) (fun v5 v14 _ _ _ _ => measR v5 v14)
  case atStart => exact ⟨r4, true, [], _, rfl, rfl, lr4, hMs, K5m, World.ownsRow_nil _ _ _ _, K5r, HB5⟩
  case round =>
    obtain ⟨t, more, l, v, rfl, rfl, ht, hseg, HKm, HO, HKr, HB⟩ := hrel
    clear K5m K5r HB5
    have HO' := Lib.hid HO
    obtain ⟨A5, c5, hv5, _⟩ := own_slice HO
    clear HO
    subst hv5
    have hss := HB.size
    have hkl := HKm.lt
    have hll : l.length ≤ s.size := by
      have := congrArg List.length hseg.out
      rw [List.length_append] at this
      omega
    cases more
    · have hMl : M.segs = l := by rw [hseg.out]; unfold toCome; simp
      subst hMl
      obtain ⟨A', c', e', _, _, hsl⟩ := own_reads HO'.out (by omega)
      cases e'
      have hE0 := renc_calls (hp wr) wr (In.hp wr) M A5 c5 hsl (by omega) hsz.out
      have q0 := HKm.cell 0 rfl
      have q1 := HKm.cell 1 rfl
      have q2 := HKm.cell 2 rfl
      have q3 := HKm.cell 3 rfl
      have HO2 := HO'
      have HKr' := Lib.hid HKr
      clear hsl HKr
      by_cases hfl : (f1 && f2 && f3 && f4) = true
      · simp only [Bool.and_eq_true] at hfl
        obtain ⟨⟨⟨rfl, rfl⟩, rfl⟩, rfl⟩ := hfl
        by_cases hmay : mayB M = true
        · have henc : enc M = (text M, 0) := by unfold enc; rw [if_pos hmay]
          rw [henc] at hE0
          have HE := Lib.hid hE0
          by_cases htx : text M = bl s
          · have hR := Lib.hid (resR_some (s := bl s) (m := M) (by rw [hdec.out, if_pos ⟨rfl, hmay, htx⟩]))
            have hb : ((toB (text M)).toList == s.toList) = true := by rw [toB_beq]; simp [htx]
            clear hE0 henc hmay htx
            go_wp2_with (go_at_call 6; go_must (refine HE.out.mono ?_; rintro e w6 ⟨rfl, hb6⟩; have HB6 := Lib.hid (below_step hb6 HB); have K6m := HKm.below hb6; have K6r := HKr'.out.below hb6; have q60 := K6m.cell 0 rfl; have q61 := K6m.cell 1 rfl; have q62 := K6m.cell 2 rfl; have q63 := K6m.cell 3 rfl; have r0 := K6r.cell 0 rfl; have r1 := K6r.cell 1 rfl; have r2 := K6r.cell 2 rfl; have r3 := K6r.cell 3 rfl; have rz := K6r.frozen; have HO6 := Lib.hid (own_below HO2.out hb6); clear hb6))
            have K7 := (((K6r.set 0 (.slice A5 M.segs.length c5)).set 1 (.string M.log)).set 2 (.int .i64 M.next)).set 3 (.int .i64 M.seq)
            have t0 := K7.cell 0 rfl
            have t1 := K7.cell 1 rfl
            have t2 := K7.cell 2 rfl
            have t3 := K7.cell 3 rfl
            have HO7 := own_set (b := w.heap.size) (i := 3) (u := .int .i64 M.seq) (own_set (b := w.heap.size) (i := 2) (u := .int .i64 M.next) (own_set (b := w.heap.size) (i := 1) (u := .string M.log) (own_set (b := w.heap.size) (i := 0) (u := .slice A5 M.segs.length c5) HO6.out (by omega)) (by omega)) (by omega)) (by omega)
            obtain ⟨A', c', e', _, _, hsl⟩ := own_reads HO7 (by omega)
            cases e'
            refine bodyPost_ret (v := .tuple #[.agg #[.slice A5 M.segs.length c5, .string M.log, .int .i64 M.next, .int .i64 M.seq], .int .i64 0]) (by simp [results, Tryd.results8, go_sem, t0, t1, t2, t3]) rfl ⟨⟨A5, c5, by rw [hR.out]; rfl, by rw [hR.out]; exact hsl⟩, ?_⟩
            repeat (first | exact HB6.out | refine Below.setCell ?_ (by simp) _)
          · have hR := Lib.hid (resR_none (s := bl s) (by rw [hdec.out, if_neg (fun h => htx h.2.2)]))
            have hb : ((toB (text M)).toList == s.toList) = false := by rw [toB_beq]; simp [htx]
            clear hE0 henc hmay htx
            go_wp2_with (go_at_call 6; go_must (refine HE.out.mono ?_; rintro e w6 ⟨rfl, hb6⟩; have HB6 := Lib.hid (below_step hb6 HB); have K6m := HKm.below hb6; have K6r := HKr'.out.below hb6; have q60 := K6m.cell 0 rfl; have q61 := K6m.cell 1 rfl; have q62 := K6m.cell 2 rfl; have q63 := K6m.cell 3 rfl; have r0 := K6r.cell 0 rfl; have r1 := K6r.cell 1 rfl; have r2 := K6r.cell 2 rfl; have r3 := K6r.cell 3 rfl; have rz := K6r.frozen; have HO6 := Lib.hid (own_below HO2.out hb6); clear hb6))
            have K7 := (((K6r.set 0 (.slice none 0 0)).set 1 (.string ⟨#[]⟩)).set 2 (.int .i64 0)).set 3 (.int .i64 0)
            have t0 := K7.cell 0 rfl
            have t1 := K7.cell 1 rfl
            have t2 := K7.cell 2 rfl
            have t3 := K7.cell 3 rfl
            refine bodyPost_ret (v := .tuple #[.agg (mcells none 0 Man.zero), .int .i64 110]) (by simp [results, Tryd.results8, go_sem, t0, t1, t2, t3, mcells, Man.zero]) rfl ⟨⟨none, 0, by rw [hR.out], by rw [hR.out]; exact Sl.nilS _ _⟩, ?_⟩
            repeat (first | exact HB6.out | refine Below.setCell ?_ (by simp) _)
        · have henc : enc M = ([], 110) := by unfold enc; rw [if_neg hmay]
          rw [henc] at hE0
          have HE := Lib.hid hE0
          have hR := Lib.hid (resR_none (s := bl s) (by rw [hdec.out, if_neg (fun h => hmay h.2.1)]))
          clear hE0 henc hmay
          go_wp2_with (go_at_call 6; go_must (refine HE.out.mono ?_; rintro e w6 ⟨rfl, hb6⟩; have HB6 := Lib.hid (below_step hb6 HB); have K6m := HKm.below hb6; have K6r := HKr'.out.below hb6; have q60 := K6m.cell 0 rfl; have q61 := K6m.cell 1 rfl; have q62 := K6m.cell 2 rfl; have q63 := K6m.cell 3 rfl; have r0 := K6r.cell 0 rfl; have r1 := K6r.cell 1 rfl; have r2 := K6r.cell 2 rfl; have r3 := K6r.cell 3 rfl; have rz := K6r.frozen; have HO6 := Lib.hid (own_below HO2.out hb6); clear hb6))
          have K7 := (((K6r.set 0 (.slice none 0 0)).set 1 (.string ⟨#[]⟩)).set 2 (.int .i64 0)).set 3 (.int .i64 0)
          have t0 := K7.cell 0 rfl
          have t1 := K7.cell 1 rfl
          have t2 := K7.cell 2 rfl
          have t3 := K7.cell 3 rfl
          refine bodyPost_ret (v := .tuple #[.agg (mcells none 0 Man.zero), .int .i64 110]) (by simp [results, Tryd.results8, go_sem, t0, t1, t2, t3, mcells, Man.zero]) rfl ⟨⟨none, 0, by rw [hR.out], by rw [hR.out]; exact Sl.nilS _ _⟩, ?_⟩
          repeat (first | exact HB6.out | refine Below.setCell ?_ (by simp) _)
      · have hR := Lib.hid (resR_none (s := bl s) (by rw [hdec.out, if_neg (fun h => hfl h.1)]))
        obtain ⟨ec, hec⟩ : ∃ x, x = enc M := ⟨_, rfl⟩
        rw [← hec] at hE0
        have HE := Lib.hid hE0
        clear hE0 hec hdec hflags
        cases f1 <;> cases f2 <;> cases f3 <;> cases f4
        all_goals
          first
          | exact absurd rfl hfl
          | (clear hfl
             go_wp2_with (go_at_call 6; go_must (refine HE.out.mono ?_; rintro e w6 ⟨rfl, hb6⟩; have HB6 := Lib.hid (below_step hb6 HB); have K6m := HKm.below hb6; have K6r := HKr'.out.below hb6; have q60 := K6m.cell 0 rfl; have q61 := K6m.cell 1 rfl; have q62 := K6m.cell 2 rfl; have q63 := K6m.cell 3 rfl; have r0 := K6r.cell 0 rfl; have r1 := K6r.cell 1 rfl; have r2 := K6r.cell 2 rfl; have r3 := K6r.cell 3 rfl; have rz := K6r.frozen; have HO6 := Lib.hid (own_below HO2.out hb6); clear hb6))
             have K7 := (((K6r.set 0 (.slice none 0 0)).set 1 (.string ⟨#[]⟩)).set 2 (.int .i64 0)).set 3 (.int .i64 0)
             have t0 := K7.cell 0 rfl
             have t1 := K7.cell 1 rfl
             have t2 := K7.cell 2 rfl
             have t3 := K7.cell 3 rfl
             refine bodyPost_ret (v := .tuple #[.agg (mcells none 0 Man.zero), .int .i64 110]) (by simp [results, Tryd.results8, go_sem, t0, t1, t2, t3, mcells, Man.zero]) rfl ⟨⟨none, 0, by rw [hR.out], by rw [hR.out]; exact Sl.nilS _ _⟩, ?_⟩
             repeat (first | exact HB6.out | refine Below.setCell ?_ (by simp) _))
    · obtain ⟨⟨x, r, ok⟩, hw⟩ : ∃ y, y = word t wSegm := ⟨_, rfl⟩
      have hle := word_le t wSegm
      rw [← hw] at hle
      simp only at hle
      have kW := word_calls wr (toB t) ⟨#[115, 101, 103, 109, 101, 110, 116, 32]⟩ (by rw [size_toB]; omega) (by decide)
      have ew : word (bl (toB t)) (bl ⟨#[115, 101, 103, 109, 101, 110, 116, 32]⟩) = (x, r, ok) := by rw [bl_toB]; exact hw.symm
      rw [ew] at kW
      unfold wordV at kW
      simp only at kW
      have KW := Lib.hid kW
      clear kW ew
      cases ok
      · have hseg2 : Hid (M.segs = l ++ toCome false t) := Lib.hid (by
          rw [hseg.out]
          unfold toCome
          simp only [if_true]
          rw [segsOf_end hw.symm]
          simp)
        clear hw
        go_wp2_with (go_at_call 20; go_must (refine KW.out.mono ?_; rintro e w6 ⟨rfl, hb6⟩; have HB6 := Lib.hid hb6; clear hb6))
        go_roundw
        case rel => exact ⟨t, false, l, _, rfl, rfl, ht, hseg2, HKm.below HB6.out, own_below HO'.out HB6.out, HKr.below HB6.out, below_step HB6.out HB⟩
        case measure => simp [measR]
      · have hseg2 : Hid (M.segs = (l ++ [toB x]) ++ toCome true r) := Lib.hid (by
          rw [hseg.out]
          unfold toCome
          simp only [if_true]
          rw [segsOf_step hw.symm]
          simp)
        have hlen := word_len hw.symm
        have hrb := fun j hj => own_base HO'.out j hj
        obtain ⟨bx, hbx⟩ : ∃ y, y = toB x := ⟨_, rfl⟩
        obtain ⟨br, hbr⟩ : ∃ y, y = toB r := ⟨_, rfl⟩
        rw [← hbx, ← hbr] at KW
        rw [← hbx] at hseg2
        have HBX := Lib.hid hbx
        have HBR := Lib.hid hbr
        clear hw hbx hbr
        go_wp2_with (first
          | (go_at_call 20; go_must (refine KW.out.mono ?_; rintro e w6 ⟨rfl, hb6⟩; have HB6 := below_step hb6 HB; have K6m := HKm.below hb6; have K6r := Lib.hid (HKr.below hb6); have HO6 := Lib.hid (own_below HO'.out hb6); have q0 := K6m.cell 0 rfl; have hs6 := hb6.size; clear hb6))
          | (at_builtin; go_must (refine app_new (W := w6) (w4.heap.size + 1) rfl (.tmp 60) (.tmp 62) 22 9 (.string ⟨#[]⟩) 1 16 rfl Tryd.underlying22 Tryd.infoStr rfl (by decide) (by decide) _ _ _ [.string bx] rfl rfl rfl (by simp [Value.oneCell']) HO6.out (by omega) (by omega) ?_; intro g5 cap5 w5 hown5 hg5 hat5; have HO5 := Lib.hid hown5; have HG5 := Lib.hid hg5; have K5m := K6m.grown hg5 (fun j hj => by have := hrb j hj; omega); have q50 := K5m.cell 0 rfl; have f50 := K5m.frozen 0; clear hown5 hg5 hat5)))
        go_roundw
        case rel =>
          refine ⟨r, true, l ++ [bx], .slice (some ⟨g5, 0, none⟩) (l.length + 1) cap5, by rw [HBR.out], rfl, by omega, hseg2, K5m.set 0 _, ?_, (K6r.out.grown HG5.out (fun j hj => by have := hrb j hj; omega)).far (by simp; omega) _, (HB6.grown HG5.out HB6.size (fun j hj => by have := hrb j hj; omega)).setCell (by simp; omega) _⟩
          have := own_set (b := w4.heap.size) (i := 0) (u := .slice (some ⟨g5, 0, none⟩) (l.length + 1) cap5) HO5.out (by omega)
          simpa using this
        case measure => simp [measR, HBR.out, size_toB]; omega
end Go.Proofs.YteeckkkcebljmaaDoor
