/- Walks: manifest.may. -/
import Derived.Test.YteeckkkcebljmaaDoorMWalkF
import Derived.Test.YteeckkkcebljmaaDoorLA
import Derived.Outline
namespace Go.Proofs.YteeckkkcebljmaaDoor
open Go.RowKit Go.Shelf Go.Sort
set_option maxRecDepth 100000
set_option linter.unusedVariables false
set_option linter.unusedSimpArgs false

/-- What a manifest's cells are. -/
def RMan (H : PH) (m : Man) (cs : List Value) : Prop := ∃ A c, cs = [.slice A m.segs.length c, .string m.log, .int .i64 m.next, .int .i64 m.seq] ∧ Sl RS 1 H A m.segs
def okHead (m : Man) : Prop := 1 ≤ m.next ∧ m.next ≤ 4503599627370496 ∧ 0 ≤ m.seq ∧ m.seq ≤ 4503599627370496 ∧ m.segs.length ≤ 1024 ∧ fileR (bl m.log) m.next = true
theorem mayB_bad {m : Man} (h : ¬ okHead m) : mayB m = false := by
  unfold mayB
  rw [decide_eq_false_iff_not]
  rintro ⟨h1, h2, h3, h4, h5, h6, h7, h8⟩
  exact h ⟨h1, h2, h3, h4, h6, h5⟩
/-- The first k names. -/
def okUp (m : Man) (k : Nat) : Prop := (∀ j (hj : j < m.segs.length), j < k → fileR (bl m.segs[j]) m.next = true) ∧ (m.log :: m.segs.take k).Nodup
theorem okUp_zero (m : Man) : okUp m 0 := ⟨fun _ _ h => by omega, by simp⟩
theorem okUp_step {m : Man} {k : Nat} (hk : k < m.segs.length) (h : okUp m k) (hf : fileR (bl m.segs[k]) m.next = true) (hn : m.segs[k] ∉ m.log :: m.segs.take k) : okUp m (k + 1) := by
  refine ⟨fun j hj hjk => ?_, ?_⟩
  · rcases Nat.lt_or_ge j k with h1 | h1
    · exact h.1 j hj h1
    · obtain rfl : j = k := by omega
      exact hf
  · have e : m.log :: m.segs.take (k + 1) = (m.log :: m.segs.take k) ++ [m.segs[k]] := by
      rw [List.take_succ_eq_append_getElem hk]; rfl
    rw [e, List.nodup_append]
    refine ⟨h.2, by simp, ?_⟩
    intro a ha b hb
    simp at hb
    subst hb
    rintro rfl
    exact hn ha
theorem mayB_end {m : Man} (h0 : okHead m) (h : okUp m m.segs.length) : mayB m = true := by
  obtain ⟨h1, h2, h3, h4, h5, h6⟩ := h0
  unfold mayB
  rw [decide_eq_true_iff]
  refine ⟨h1, h2, h3, h4, h6, h5, ?_, ?_⟩
  · intro s hs
    obtain ⟨j, hj, rfl⟩ := List.getElem_of_mem hs
    exact h.1 j hj hj
  · have := h.2
    rwa [List.take_length] at this
theorem mayB_name {m : Man} {k : Nat} (hk : k < m.segs.length) (hf : fileR (bl m.segs[k]) m.next = false) : mayB m = false := by
  unfold mayB
  rw [decide_eq_false_iff_not]
  rintro ⟨_, _, _, _, _, _, h7, _⟩
  have := h7 _ (List.getElem_mem hk)
  rw [hf] at this
  cases this
theorem mayB_twice {m : Man} {k : Nat} (hk : k < m.segs.length) (hn : m.segs[k] ∈ m.log :: m.segs.take k) : mayB m = false := by
  unfold mayB
  rw [decide_eq_false_iff_not]
  rintro ⟨_, _, _, _, _, _, _, h8⟩
  have e : m.log :: m.segs = (m.log :: m.segs.take k) ++ (m.segs[k] :: m.segs.drop (k + 1)) := by
    rw [List.cons_append, List.getElem_cons_drop, List.take_append_drop]
  rw [e, List.nodup_append] at h8
  exact h8.2.2 _ hn _ List.mem_cons_self rfl
set_option maxHeartbeats 1000000 in
theorem may_calls (H : PH) (hG : GL H) (w : World) (hI : In H w) (m : Man) (A : Option Addr) (c : Nat) (hA : Sl RS 1 H A m.segs) (hl : m.log.size ≤ 140737488355328) (hsz : ∀ s ∈ m.segs, s.size ≤ 140737488355328) :
    Calls Tryd.prog 12 #[.agg #[.slice A m.segs.length c, .string m.log, .int .i64 m.next, .int .i64 m.seq]] w fun e w' => e = .returned (.bool (mayB m)) ∧ Below w.heap.size w w' := by
  have hF := Lib.hid (fun W hW => file_calls H hG W hW m.log hl m.next)
  have hm := hA.le
  obtain ⟨segs, log, next, seq⟩ := m
  simp only at hF hA hl hsz hm ⊢
  by_cases hgood : okHead ⟨segs, log, next, seq⟩
  · have hf : fileP (bl log) next = true := by rw [fileP_eq _ _ hgood.2.1]; exact hgood.2.2.2.2.2
    rw [hf] at hF
    have HG := Lib.hid hgood
    obtain ⟨g1, g2, g3, g4, g5, _⟩ := hgood
    simp only at g1 g2 g3 g4 g5
    clear hf
    have K0 := Blk.new w [.slice A segs.length c, .string log, .int .i64 next, .int .i64 seq] 24
    have hmm := @run_makeMap Tryd.prog
    have hput := Lib.hid (fun W => (Seen.made W).put log (by unfold maxLen; omega) (by unfold maxLen; simp))
    have d1 : decide (next < 1) = false := by simp; omega
    have d2 : decide (4503599627370496 < next) = false := by simp; omega
    have d3 : decide (seq < 0) = false := by simp; omega
    have d4 : decide (4503599627370496 < seq) = false := by simp; omega
    have d5 : decide ((1024 : Int) < (segs.length : Int)) = false := by simp; omega
    have tk1 := Lib.hid True.intro
    go_enter Tryd.func12, Tryd.ntmps12
    go_wp2_with (go_at_call 23; go_must (refine (hF.out _ (hI.below (by repeat (first | exact Below.refl _ _ | refine below_allocS ?_ _)))).mono ?_; rintro e w1 ⟨rfl, hb1⟩; have HB1 := below_step (w := w) hb1 (by repeat (first | exact Below.refl _ _ | refine below_allocS ?_ _)); have K1 := Lib.hid (K0.below hb1); have q0 := K1.out.cell 0 rfl; have q1 := K1.out.cell 1 rfl; have q2 := K1.out.cell 2 rfl; have q3 := K1.out.cell 3 rfl; have hz1 := K1.out.lt; have hgo := Lib.hid (hput.out w1); obtain ⟨w2, hrun, hseen, hgr⟩ := hput.out w1; have HS := Lib.hid hseen; have HGR := Lib.hid hgr; have HB2 : Below w.heap.size w w2 := (below_allocS HB1 _).grown hgr (by rw [World.size_alloc]; omega) (fun k hk => by cases hk; omega); have K2 : Blk w2 w.heap.size [.slice A segs.length c, .string log, .int .i64 next, .int .i64 seq] := (K1.out.alloc _).grown hgr (fun k hk => by cases hk; omega); have r0 := K2.cell 0 rfl; clear hb1 hseen hgr))
    clear hrun hgo q0 q1 q2 q3 r0
    go_loopw [5, 45] (fun _ v45 W => ∃ (k : Nat) (l : List ByteArray), k ≤ segs.length ∧ v45 = .int .i64 k ∧ Seen W w1.heap.size l ∧ Hid (∀ s, s ∈ l ↔ s ∈ log :: segs.take k) ∧ l.length = k + 1 ∧ Hid (okUp ⟨segs, log, next, seq⟩ k) ∧ Blk W w.heap.size [.slice A segs.length c, .string log, .int .i64 next, .int .i64 seq] ∧ Below w.heap.size w W) (fun _ v45 _ => segs.length - (intOf v45).toNat)
    case atStart => exact ⟨0, [log], by omega, rfl, HS.out, fun s => by simp, rfl, okUp_zero _, K2, HB2⟩
    case round =>
      obtain ⟨k, l, hk, rfl, HSn, hmem, hlen, hup, HK, HB⟩ := hrel
      clear K2 HB2
      have HSN := Lib.hid HSn
      clear HSn
      by_cases hlt : k < segs.length
      · obtain ⟨b, off, rfl, hcell⟩ := hA.get1 hlt
        have hc0 := (hI.below HB).cell hcell
        have q0 := HK.cell 0 rfl
        have q2 := HK.cell 2 rfl
        have hsk := hsz _ (List.getElem_mem hlt)
        have hFk := file_calls H hG wr (hI.below HB) segs[k] hsk next
        obtain ⟨f, hf⟩ : ∃ f, f = fileP (bl segs[k]) next := ⟨_, rfl⟩
        rw [← hf] at hFk
        rw [fileP_eq _ _ g2] at hf
        have HFk := Lib.hid hFk
        clear hFk
        have hkl := HK.lt
        have hsl := HSN.out.lt
        obtain ⟨sk, hske⟩ : ∃ x, x = segs[k] := ⟨_, rfl⟩
        have hlook := Lib.hid (fun W (hW : Below wr.heap.size wr W) => (HSN.out.below hW).look sk (by rw [hske]; unfold maxLen; omega))
        have hputk := Lib.hid (fun W (hW : Below wr.heap.size wr W) => (HSN.out.below hW).put sk (by rw [hske]; unfold maxLen; omega) (by unfold maxLen; omega))
        rw [← hske] at hc0 HFk
        cases f
        · have hB := Lib.hid (mayB_name (m := ⟨segs, log, next, seq⟩) hlt hf.symm)
          clear hf hske
          go_wp2_with (go_at_call 23; go_must (refine HFk.out.mono ?_; rintro e w3 ⟨rfl, hb3⟩; have HB3 := Lib.hid hb3; clear hb3))
          go_ret
          exact ⟨by rw [hB.out]; rfl, below_step HB3.out HB⟩
        · obtain ⟨mb, hmb⟩ : ∃ x, x = memB sk l := ⟨_, rfl⟩
          rw [← hmb] at hlook
          cases mb
          · have hup2 : Hid (okUp ⟨segs, log, next, seq⟩ (k + 1)) := Lib.hid (okUp_step (m := ⟨segs, log, next, seq⟩) hlt hup.out hf.symm (fun hm => by
              have := memB_iff.2 ((hmem.out _).2 hm)
              rw [← hske, ← hmb] at this
              cases this))
            have hmem2 : Hid (∀ s, s ∈ sk :: l ↔ s ∈ log :: segs.take (k + 1)) := Lib.hid (fun s => by
              rw [List.mem_cons, hmem.out s, List.take_succ_eq_append_getElem hlt, hske]
              simp only [List.mem_cons, List.mem_append, List.not_mem_nil, or_false]
              constructor
              · rintro (h | h | h)
                · exact .inr (.inr h)
                · exact .inl h
                · exact .inr (.inl h)
              · rintro (h | h | h)
                · exact .inr (.inl h)
                · exact .inr (.inr h)
                · exact .inl h)
            clear hmb hf hske
            go_wp2_with (go_at_call 23; go_must (refine HFk.out.mono ?_; rintro e w3 ⟨rfl, hb3⟩; have hl3 := hlook.out w3 hb3; obtain ⟨w4, hrun4, hs4, hg4⟩ := hputk.out w3 hb3; have HB4 : Hid (Below w.heap.size w w4) := Lib.hid ((below_step hb3 HB).grown hg4 (below_step hb3 HB).size (fun k hk => by cases hk; omega)); have HK4 := Lib.hid ((HK.below hb3).grown hg4 (fun k hk => by cases hk; omega)); have HS4 := Lib.hid hs4; clear hb3 hs4 hg4))
            go_roundw
            case rel => exact ⟨k + 1, sk :: l, by omega, by go_num, HS4.out, hmem2.out, by simp [hlen], hup2, HK4.out, HB4.out⟩
            case measure => simp [intOf]; omega
          · have hB := Lib.hid (mayB_twice (m := ⟨segs, log, next, seq⟩) hlt ((hmem.out _).1 (memB_iff.1 (by rw [← hske]; exact hmb.symm))))
            clear hmb hf hske
            go_wp2_with (go_at_call 23; go_must (refine HFk.out.mono ?_; rintro e w3 ⟨rfl, hb3⟩; have hl3 := hlook.out w3 hb3; have HB3 := Lib.hid hb3; clear hb3))
            go_ret
            exact ⟨by rw [hB.out]; rfl, below_step HB3.out HB⟩
      · obtain rfl : k = segs.length := by omega
        have hB := Lib.hid (mayB_end HG.out hup.out)
        go_wp2_with fail
        go_ret
        exact ⟨by rw [hB.out]; rfl, HB⟩
  · have hB := Lib.hid (mayB_bad hgood)
    obtain ⟨f, hf⟩ : ∃ f, f = fileP (bl log) next := ⟨_, rfl⟩
    rw [← hf] at hF
    have hbad : ¬ (1 ≤ next ∧ next ≤ 4503599627370496 ∧ 0 ≤ seq ∧ seq ≤ 4503599627370496 ∧ segs.length ≤ 1024 ∧ f = true) := by
      rintro ⟨h1, h2, h3, h4, h5, h6⟩
      exact hgood ⟨h1, h2, h3, h4, h5, by rw [← fileP_eq _ _ h2, ← hf, h6]⟩
    clear hf hgood
    have K0 := Blk.new w [.slice A segs.length c, .string log, .int .i64 next, .int .i64 seq] 24
    cases f
    · clear hbad
      go_enter Tryd.func12, Tryd.ntmps12
      go_wp2_with (go_at_call 23; go_must (refine (hF.out _ (hI.below (by repeat (first | exact Below.refl _ _ | refine below_allocS ?_ _)))).mono ?_; rintro e w1 ⟨rfl, hb1⟩; have HB1 := below_step (w := w) hb1 (by repeat (first | exact Below.refl _ _ | refine below_allocS ?_ _)); have K1 := Lib.hid (K0.below hb1); have q0 := K1.out.cell 0 rfl; have q1 := K1.out.cell 1 rfl; have q2 := K1.out.cell 2 rfl; have q3 := K1.out.cell 3 rfl; have hz1 := K1.out.lt; clear hb1))
      all_goals
        go_ret
        exact ⟨by rw [hB.out]; rfl, by first | exact HB1 | exact below_allocS (Below.refl _ _) _⟩
    · simp only [and_true] at hbad
      go_enter Tryd.func12, Tryd.ntmps12
      go_wp2_with (go_at_call 23; go_must (refine (hF.out _ (hI.below (by repeat (first | exact Below.refl _ _ | refine below_allocS ?_ _)))).mono ?_; rintro e w1 ⟨rfl, hb1⟩; have HB1 := below_step (w := w) hb1 (by repeat (first | exact Below.refl _ _ | refine below_allocS ?_ _)); have K1 := Lib.hid (K0.below hb1); have q0 := K1.out.cell 0 rfl; have q1 := K1.out.cell 1 rfl; have q2 := K1.out.cell 2 rfl; have q3 := K1.out.cell 3 rfl; have hz1 := K1.out.lt; clear hb1))
      all_goals
        go_ret
        exact ⟨by rw [hB.out]; rfl, by first | exact HB1 | exact below_allocS (Below.refl _ _) _⟩
end Go.Proofs.YteeckkkcebljmaaDoor
