/- Walks: lodestarref08.Same, Has; filter.Size, Depth. -/
import Derived.Test.YteoeahmfpohpeaaDoorWalkD
import Derived.Test.YteoeahmfpohpeaaDoorPureE
namespace Go.Proofs.YteoeahmfpohpeaaDoor
open Go.RowKit Go.Shelf
set_option maxRecDepth 100000
set_option linter.unusedVariables false
set_option linter.unusedSimpArgs false

def AllSame (xs ys : List Int) (k : Nat) : Prop := ∀ j (hx : j < xs.length) (hy : j < ys.length), j < k → xs[j] = ys[j]
set_option maxHeartbeats 1000000 in
theorem same08_calls (H : PH) (w : World) (A B : Option Addr) (ca cb : Nat) (xs ys : List Int) (hI : In H w) (hx : Sl RI 1 H A xs) (hy : Sl RI 1 H B ys) :
    Calls Tryd.prog 6 #[.slice A xs.length ca, .slice B ys.length cb] w fun e w' => e = .returned (.bool (decide (xs = ys))) ∧ Below w.heap.size w w' := by
  have h1 := hx.le
  have h2 := hy.le
  by_cases hl : xs.length = ys.length
  · have hd : ((xs.length : Int) != ys.length) = false := by simp [hl]
    have HL := Lib.hid hl
    clear hl
    go_enter Tryd.func6, Tryd.ntmps6
    go_wp2
    go_loopw [5] (fun i W => ∃ k : Nat, k ≤ xs.length ∧ i = .int .i64 k ∧ AllSame xs ys k ∧ Below w.heap.size w W) (fun i _ => xs.length - (intOf i).toNat)
    case atStart => exact ⟨0, Nat.zero_le _, rfl, fun _ _ _ h => by omega, Below.refl _ _⟩
    case round =>
      obtain ⟨k, hk, rfl, hE, HB⟩ := hrel
      by_cases hlt : k < xs.length
      · have hlt2 : k < ys.length := by have := HL.out; omega
        obtain ⟨b1, o1, rfl, c1⟩ := hx.get1 hlt
        obtain ⟨b2, o2, rfl, c2⟩ := hy.get1 hlt2
        have hc1 := rdW hI HB c1
        have hc2 := rdW hI HB c2
        have hi1 : (k : Int) < xs.length := by omega
        have hi2 : (k : Int) < ys.length := by omega
        have hi0 : (0 : Int) ≤ k := by omega
        by_cases he : xs[k] = ys[k]
        · have hb : (xs[k] != ys[k]) = false := by simp [he]
          have hE' : AllSame xs ys (k + 1) := fun j hj1 hj2 hj => by
            rcases Nat.lt_or_ge j k with h | h
            · exact hE j hj1 hj2 h
            · obtain rfl : j = k := by omega
              exact he
          clear he hE
          go_wp2
          go_quiet (fail)
          go_wp2
          go_roundw
          case rel => exact ⟨k + 1, by omega, by go_num, hE', below_drewN HB _⟩
          case measure => simp [intOf]; omega
        · have hb : (xs[k] != ys[k]) = true := by simp [he]
          have hne : decide (xs = ys) = false := by simp only [decide_eq_false_iff_not]; rintro rfl; exact he rfl
          have hne' := Lib.hid hne
          clear he hE hne
          go_wp2
          go_quiet (fail)
          go_wp2
          go_ret
          exact ⟨by rw [hne'.out]; rfl, below_drewN HB _⟩
      · have hne : decide (xs = ys) = true := by
          simp only [decide_eq_true_iff]
          exact List.ext_getElem HL.out (fun j hj1 hj2 => hE j hj1 hj2 (by omega))
        have hne' := Lib.hid hne
        clear hE hne
        go_wp2
        go_ret
        exact ⟨by rw [hne'.out]; rfl, HB⟩
  · have hd : ((xs.length : Int) != ys.length) = true := by simp; omega
    have hne : decide (xs = ys) = false := by simp only [decide_eq_false_iff_not]; rintro rfl; exact hl rfl
    have hne' := Lib.hid hne
    clear hl hne
    go_enter Tryd.func6, Tryd.ntmps6
    go_wp2
    go_ret
    exact ⟨by rw [hne'.out]; rfl, Below.refl _ _⟩

set_option maxHeartbeats 1000000 in
theorem size_calls (H : PH) : ∀ n c cs w, In H w → RC H n c cs → Calls Tryd.prog 13 #[.agg cs.toArray] w fun e w' => e = .returned (.int .i64 (csize c)) ∧ Below w.heap.size w w' := by
  intro n
  induction n with
  | zero => intro c cs w _ h; exact h.elim
  | succ n ih =>
    intro c cs w hI h
    obtain ⟨k, nm, v, lo, hi, l, L, rfl, rfl, A, cp, rfl, _, hl⟩ := h.open
    have hm := hl.le
    have IH := Lib.hid ih
    clear ih h
    go_enter Tryd.func13, Tryd.ntmps13
    go_wp2
    have HB0 := below_allocS (Below.refl w.heap.size w) (.cells (cCells k nm v lo hi (.slice A l.length cp)).toArray 26)
    go_loopw [3, 9] (fun v3 v9 W => ∃ (j : Nat) (acc : Int), j ≤ l.length ∧ v9 = .int .i64 j ∧ v3 = .int .i64 acc ∧ Hid (csizeL acc (l.drop j) = csizeL 1 l) ∧ Below w.heap.size w W) (fun _ v9 _ => l.length - (intOf v9).toNat)
    case atStart => exact ⟨0, 1, by omega, rfl, rfl, rfl, HB0⟩
    case round =>
      obtain ⟨j, acc, hj, rfl, rfl, HS, HB⟩ := hrel
      clear HB0
      by_cases hlt : j < l.length
      · obtain ⟨b, off, cs, rfl, hR, hcell⟩ := hl.get hlt
        have hcall := fun W (hW : In H W) => IH.out _ _ W hW hR
        obtain ⟨k', nm', v', lo', hi', A', m', c', rfl⟩ := hR.form
        have hc0 := rdW0 hI HB (hcell 0 _ rfl)
        have hc1 := rdW hI HB (hcell 1 _ rfl)
        have hc2 := rdW hI HB (hcell 2 _ rfl)
        have hc3 := rdW hI HB (hcell 3 _ rfl)
        have hc4 := rdW hI HB (hcell 4 _ rfl)
        have hc5 := rdW hI HB (hcell 5 _ rfl)
        have hc6 := rdW hI HB (hcell 6 _ rfl)
        have hc7 := rdW hI HB (hcell 7 _ rfl)
        have hs := Lib.hid ((csizeL_step hlt).trans HS.out)
        go_wp2_with (go_at_call 13; go_must (refine (hcall _ (hI.below (by repeat (first | exact HB | refine below_allocS ?_ _ | refine Below.setCell ?_ (by have := HB.size; simp; omega) _)))).mono ?_; rintro e w1 ⟨rfl, hb⟩; have HB1 := below_step (w := w) hb (by repeat (first | exact HB | refine below_allocS ?_ _ | refine Below.setCell ?_ (by have := HB.size; simp; omega) _))))
        go_roundw
        case rel => exact ⟨j + 1, _, by omega, by go_num, rfl, hs, HB1⟩
        case measure => simp [intOf]; omega
      · have hs := Lib.hid ((csizeL_end (by omega)).symm.trans HS.out)
        go_wp2
        go_ret
        exact ⟨by rw [show csize (.mk k nm v lo hi l) = csizeL 1 l from rfl, ← hs.out]; rfl, HB⟩

set_option maxHeartbeats 1000000 in
theorem depth_calls (H : PH) : ∀ n c cs w, In H w → RC H n c cs → Calls Tryd.prog 23 #[.agg cs.toArray] w fun e w' => e = .returned (.int .i64 (cdepth c)) ∧ Below w.heap.size w w' := by
  intro n
  induction n with
  | zero => intro c cs w _ h; exact h.elim
  | succ n ih =>
    intro c cs w hI h
    obtain ⟨k, nm, v, lo, hi, l, L, rfl, rfl, A, cp, rfl, _, hl⟩ := h.open
    have hm := hl.le
    have IH := Lib.hid ih
    clear ih h
    go_enter Tryd.func23, Tryd.ntmps23
    go_wp2
    have HB0 := below_allocS (Below.refl w.heap.size w) (.cells (cCells k nm v lo hi (.slice A l.length cp)).toArray 26)
    go_loopw [3, 9] (fun v3 v9 W => ∃ (j : Nat) (acc : Int), j ≤ l.length ∧ v9 = .int .i64 j ∧ v3 = .int .i64 acc ∧ Hid (cdepthL acc (l.drop j) = cdepthL 0 l) ∧ Below w.heap.size w W) (fun _ v9 _ => l.length - (intOf v9).toNat)
    case atStart => exact ⟨0, 0, by omega, rfl, rfl, rfl, HB0⟩
    case round =>
      obtain ⟨j, acc, hj, rfl, rfl, HS, HB⟩ := hrel
      clear HB0
      by_cases hlt : j < l.length
      · obtain ⟨b, off, cs, rfl, hR, hcell⟩ := hl.get hlt
        have hcall := fun W (hW : In H W) => IH.out _ _ W hW hR
        obtain ⟨k', nm', v', lo', hi', A', m', c', rfl⟩ := hR.form
        have hc0 := rdW0 hI HB (hcell 0 _ rfl)
        have hc1 := rdW hI HB (hcell 1 _ rfl)
        have hc2 := rdW hI HB (hcell 2 _ rfl)
        have hc3 := rdW hI HB (hcell 3 _ rfl)
        have hc4 := rdW hI HB (hcell 4 _ rfl)
        have hc5 := rdW hI HB (hcell 5 _ rfl)
        have hc6 := rdW hI HB (hcell 6 _ rfl)
        have hc7 := rdW hI HB (hcell 7 _ rfl)
        have hs := Lib.hid ((cdepthL_step hlt).trans HS.out)
        go_wp2_with (go_at_call 23; go_must (refine (hcall _ (hI.below (by repeat (first | exact HB | refine below_allocS ?_ _ | refine Below.setCell ?_ (by have := HB.size; simp; omega) _)))).mono ?_; rintro e w1 ⟨rfl, hb⟩; have HB1 := below_step (w := w) hb (by repeat (first | exact HB | refine below_allocS ?_ _ | refine Below.setCell ?_ (by have := HB.size; simp; omega) _))))
        go_roundw
        case rel => exact ⟨j + 1, _, by omega, by go_num, rfl, hs, HB1⟩
        case measure => simp [intOf]; omega
      · have hs := Lib.hid ((cdepthL_end (by omega)).symm.trans HS.out)
        go_wp2
        go_ret
        exact ⟨by rw [show cdepth (.mk k nm v lo hi l) = wrap64 (cdepthL 0 l + 1) from rfl, ← hs.out]; rfl, HB⟩
end Go.Proofs.YteoeahmfpohpeaaDoor
