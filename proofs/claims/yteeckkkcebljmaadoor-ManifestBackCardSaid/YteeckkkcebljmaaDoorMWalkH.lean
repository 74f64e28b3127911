/- Walks: the document's May. -/
import Derived.Test.YteeckkkcebljmaaDoorMWalkG
namespace Go.Proofs.YteeckkkcebljmaaDoor
open Go.RowKit Go.Shelf Go.Sort
set_option maxRecDepth 100000
set_option linter.unusedVariables false
set_option linter.unusedSimpArgs false

theorem name_quiet (w : World) (s : ByteArray) (hs : s.size ≤ 140737488355328) (next : Int) (f : Bool) (hf : f = fileR (bl s) next) (n : Nat) :
    Calls Tryd.prog 22 #[.string s, .int .i64 next] (w.drewN n) fun e w'' => e = .returned (.bool f) ∧ ∃ m, w'' = w.drewN m :=
  Calls.quiet_of_same ((name_calls (w.drewN n) s hs next).mono fun e w' ⟨h1, h2⟩ => ⟨by rw [hf]; exact h1, h2.symm⟩)
theorem bytes_eq (a b : ByteArray) : (a.toList == b.toList) = decide (a = b) := beqS a b
set_option maxHeartbeats 1000000 in
theorem rmay_calls (H : PH) (w : World) (hI : In H w) (m : Man) (A : Option Addr) (c : Nat) (hA : Sl RS 1 H A m.segs) (hl : m.log.size ≤ 140737488355328) (hsz : ∀ s ∈ m.segs, s.size ≤ 140737488355328) :
    Calls Tryd.prog 11 #[.agg #[.slice A m.segs.length c, .string m.log, .int .i64 m.next, .int .i64 m.seq]] w fun e w' => e = .returned (.bool (mayB m)) ∧ Below w.heap.size w w' := by
  have hF := Lib.hid (fun W => name_calls W m.log hl m.next)
  have hm := hA.le
  obtain ⟨segs, log, next, seq⟩ := m
  simp only at hF hA hl hsz hm ⊢
  have K0 := Blk.new w [.slice A segs.length c, .string log, .int .i64 next, .int .i64 seq] 24
  have HB0 : Below w.heap.size w (w.alloc (.cells #[.slice A segs.length c, .string log, .int .i64 next, .int .i64 seq] 24)) := below_allocS (Below.refl _ _) _
  by_cases hgood : okHead ⟨segs, log, next, seq⟩
  · have hf : fileR (bl log) next = true := hgood.2.2.2.2.2
    rw [hf] at hF
    have HG := Lib.hid hgood
    obtain ⟨g1, g2, g3, g4, g5, _⟩ := hgood
    simp only at g1 g2 g3 g4 g5
    clear hf
    have d1 : decide (next < 1) = false := by simp; omega
    have d2 : decide (4503599627370496 < next) = false := by simp; omega
    have d3 : decide (seq < 0) = false := by simp; omega
    have d4 : decide (4503599627370496 < seq) = false := by simp; omega
    have d5 : decide ((1024 : Int) < (segs.length : Int)) = false := by simp; omega
    go_enter Tryd.func11, Tryd.ntmps11
    go_wp2_with (go_at_call 22; go_must (refine (hF.out _).mono ?_; rintro e w1 ⟨rfl, rfl⟩))
    go_loopw [3, 4] (fun v3 _ W => ∃ (k : Nat), k ≤ segs.length ∧ v3 = .int .i64 k ∧ Hid (okUp ⟨segs, log, next, seq⟩ k) ∧ Blk W w.heap.size [.slice A segs.length c, .string log, .int .i64 next, .int .i64 seq] ∧ Below w.heap.size w W) (fun v3 _ _ => segs.length - (intOf v3).toNat)
    case atStart => exact ⟨0, by omega, rfl, okUp_zero _, K0, HB0⟩
    case round =>
      obtain ⟨k, hk, rfl, hup, HK, HB⟩ := hrel
      clear K0 HB0
      have q0 := HK.cell 0 rfl
      have q1 := HK.cell 1 rfl
      have q2 := HK.cell 2 rfl
      by_cases hlt : k < segs.length
      · obtain ⟨b, off, rfl, hcell⟩ := hA.get1 hlt
        have hc0 := (hI.below HB).cell hcell
        have hsk := hsz _ (List.getElem_mem hlt)
        have i0 : (0 : Int) ≤ (k : Int) := by omega
        have i1 : (k : Int) < (segs.length : Int) := by omega
        obtain ⟨sk, hske⟩ : ∃ x, x = segs[k] := ⟨_, rfl⟩
        rw [← hske] at hc0 hsk
        obtain ⟨f, hf⟩ : ∃ f, f = fileR (bl sk) next := ⟨_, rfl⟩
        have HFk := Lib.hid (name_quiet wr sk hsk next f hf)
        cases f
        · have hB := Lib.hid (mayB_name (m := ⟨segs, log, next, seq⟩) hlt (hske ▸ hf.symm))
          clear hf hske
          go_wp2_with fail
          go_quiet ((go_at_call 22; exact HFk.out _))
          go_wp2_with fail
          go_ret
          exact ⟨by rw [hB.out]; rfl, below_drewN HB _⟩
        · by_cases hlg : sk = log
          · have hB := Lib.hid (mayB_twice (m := ⟨segs, log, next, seq⟩) hlt (by rw [← hske, hlg]; exact List.mem_cons_self))
            have heq : (sk.toList == log.toList) = true := by rw [bytes_eq]; simp [hlg]
            clear hf hske hlg
            go_wp2_with fail
            go_quiet ((go_at_call 22; exact HFk.out _))
            go_wp2_with fail
            go_ret
            exact ⟨by rw [hB.out]; rfl, below_drewN HB _⟩
          · have heq : (sk.toList == log.toList) = false := by rw [bytes_eq]; simp [hlg]
            have hf' := Lib.hid hf
            have hske' := Lib.hid hske
            have hlg' := Lib.hid hlg
            clear hf hske hlg
            go_wp2_with fail
            go_quiet ((go_at_call 22; exact HFk.out _))
            go_wp2_with fail
            have HBi := below_drewN HB nq
            have HKi : Blk (wr.drewN nq) w.heap.size [.slice (some ⟨b, off, none⟩) segs.length c, .string log, .int .i64 next, .int .i64 seq] := HK
            clear heq hc0 q0 q1 q2 HB HK
            generalize wr.drewN nq = wi at *
            go_loopw [4] (fun v4 W => ∃ j : Nat, j ≤ k ∧ v4 = .int .i64 j ∧ Hid (∀ i (hi : i < segs.length), i < j → segs[i] ≠ sk) ∧ Blk W w.heap.size [.slice (some ⟨b, off, none⟩) segs.length c, .string log, .int .i64 next, .int .i64 seq] ∧ Below w.heap.size w W) (fun v4 _ => k - (intOf v4).toNat)
            case atStart => exact ⟨0, by omega, rfl, fun _ _ h => by omega, HKi, HBi⟩
            case round =>
              obtain ⟨j, hj, rfl, hne, HK, HB⟩ := hrel
              clear HKi HBi
              have q0 := HK.cell 0 rfl
              have q1 := HK.cell 1 rfl
              have q2 := HK.cell 2 rfl
              by_cases hjl : j < k
              · obtain ⟨b', off', e', hcell'⟩ := hA.get1 (show j < segs.length by omega)
                cases e'
                have hcj := (hI.below HB).cell hcell'
                have hck := (hI.below HB).cell hcell
                have j0 : (0 : Int) ≤ (j : Int) := by omega
                have j1 : (j : Int) < (segs.length : Int) := by omega
                rw [← hske'.out] at hck
                obtain ⟨sj, hsj⟩ : ∃ x, x = segs[j] := ⟨_, rfl⟩
                rw [← hsj] at hcj
                by_cases hss : sj = sk
                · have hB := Lib.hid (mayB_twice (m := ⟨segs, log, next, seq⟩) hlt (by
                    show segs[k] ∈ log :: segs.take k
                    rw [← hske'.out, ← hss, hsj]
                    exact List.mem_cons_of_mem _ (List.mem_iff_getElem?.2 ⟨j, by rw [List.getElem?_take, if_pos hjl, List.getElem?_eq_getElem]⟩)))
                  have heq : (sj.toList == sk.toList) = true := by rw [bytes_eq]; simp [hss]
                  clear hss hsj
                  go_wp2_with fail
                  go_quiet (fail)
                  go_wp2_with fail
                  go_ret
                  exact ⟨by rw [hB.out]; rfl, below_drewN HB _⟩
                · have heq : (sj.toList == sk.toList) = false := by rw [bytes_eq]; simp [hss]
                  have hne2 : Hid (∀ i (hi : i < segs.length), i < j + 1 → segs[i] ≠ sk) := Lib.hid (fun i hi h => by
                    rcases Nat.lt_or_ge i j with h1 | h1
                    · exact hne.out i hi h1
                    · obtain rfl : i = j := by omega
                      rw [← hsj]; exact hss)
                  clear hss hsj
                  go_wp2_with fail
                  go_quiet (fail)
                  go_wp2_with fail
                  go_roundw
                  case rel => exact ⟨j + 1, by omega, by go_num, hne2, HK, below_drewN HB _⟩
                  case measure => simp [intOf]; omega
              · obtain rfl : j = k := by omega
                have hup2 : Hid (okUp ⟨segs, log, next, seq⟩ (j + 1)) := Lib.hid (okUp_step (m := ⟨segs, log, next, seq⟩) hlt hup.out (hske'.out ▸ hf'.out.symm) (fun hm => by
                  have hm : segs[j] ∈ log :: segs.take j := hm
                  rcases List.mem_cons.1 hm with h | h
                  · exact hlg'.out (hske'.out.trans h)
                  · obtain ⟨i, hi, e⟩ := List.getElem_of_mem h
                    rw [List.getElem_take] at e
                    rw [List.length_take] at hi
                    exact hne.out i (by omega) (by omega) (e.trans hske'.out.symm)))
                go_wp2_with fail
                go_roundw
                case rel => exact ⟨j + 1, by omega, by go_num, hup2, HK, HB⟩
                case measure => simp [intOf]; omega
      · obtain rfl : k = segs.length := by omega
        have hB := Lib.hid (mayB_end HG.out hup.out)
        go_wp2_with fail
        go_ret
        exact ⟨by rw [hB.out]; rfl, HB⟩
  · have hB := Lib.hid (mayB_bad hgood)
    obtain ⟨f, hf⟩ : ∃ f, f = fileR (bl log) next := ⟨_, rfl⟩
    rw [← hf] at hF
    have hbad : ¬ (1 ≤ next ∧ next ≤ 4503599627370496 ∧ 0 ≤ seq ∧ seq ≤ 4503599627370496 ∧ segs.length ≤ 1024 ∧ f = true) := by
      rintro ⟨h1, h2, h3, h4, h5, h6⟩
      exact hgood ⟨h1, h2, h3, h4, h5, by show fileR (bl log) next = true; rw [← hf, h6]⟩
    clear hf hgood
    cases f
    · clear hbad
      go_enter Tryd.func11, Tryd.ntmps11
      go_wp2_with (go_at_call 22; go_must (refine (hF.out _).mono ?_; rintro e w1 ⟨rfl, rfl⟩))
      all_goals
        go_ret
        exact ⟨by rw [hB.out]; rfl, HB0⟩
    · simp only [and_true] at hbad
      go_enter Tryd.func11, Tryd.ntmps11
      go_wp2_with (go_at_call 22; go_must (refine (hF.out _).mono ?_; rintro e w1 ⟨rfl, rfl⟩))
      all_goals
        go_ret
        exact ⟨by rw [hB.out]; rfl, HB0⟩
end Go.Proofs.YteeckkkcebljmaaDoor
