/- Walks: lodestarref08.Has, Set, Union, in, Inter. -/
import Derived.Test.YteoeahmfpohpeaaDoorWalkF
namespace Go.Proofs.YteoeahmfpohpeaaDoor
open Go.RowKit Go.Shelf
set_option maxRecDepth 100000
set_option linter.unusedVariables false
set_option linter.unusedSimpArgs false

theorem any_hit {n : Int} {xs : List Int} {k : Nat} (hk : k < xs.length) (h : xs[k] = n) : decide (n ∈ xs) = true := by
  simp only [decide_eq_true_iff]; subst h; exact List.getElem_mem hk
theorem any_none {n : Int} {xs : List Int} {k : Nat} (h : NoneYet (fun x : Int => x == n) xs k) (hk : xs.length ≤ k) : decide (n ∈ xs) = false := by
  simp only [decide_eq_false_iff_not]
  intro hm
  obtain ⟨j, hj, e⟩ := List.mem_iff_getElem.1 hm
  have := h j hj (by omega)
  simp [e] at this

set_option maxHeartbeats 1000000 in
theorem has_calls (H : PH) (w : World) (A : Option Addr) (c : Nat) (xs : List Int) (n : Int) (hI : In H w) (hx : Sl RI 1 H A xs) :
    Calls Tryd.prog 14 #[.slice A xs.length c, .int .i64 n] w fun e w' => e = .returned (.bool (decide (n ∈ xs))) ∧ w' = w := by
  have hm := hx.le
  go_enter Tryd.func14, Tryd.ntmps14
  go_wp2
  go_loop [5] (fun v5 => ∃ k : Nat, k ≤ xs.length ∧ v5 = .int .i64 k ∧ NoneYet (fun x : Int => x == n) xs k) (fun v5 => xs.length - (intOf v5).toNat)
  case atStart => exact ⟨0, by omega, rfl, fun _ _ h => by omega⟩
  case round =>
    obtain ⟨k, hk, rfl, HN⟩ := hrel
    by_cases hlt : k < xs.length
    · obtain ⟨b, off, rfl, hc⟩ := hx.get1 hlt
      have hc' := hI.cell hc
      clear hc
      by_cases he : xs[k] = n
      · have hb : (xs[k] == n) = true := by simp [he]
        have hr := Lib.hid (any_hit hlt he)
        clear he HN
        go_wp2
        go_ret
        exact ⟨by rw [hr.out]; rfl, rfl⟩
      · have hb : (xs[k] == n) = false := by simp [he]
        have hn := HN.step hlt hb
        clear he HN
        go_wp2
        go_round
        case rel => exact ⟨k + 1, by omega, by go_num, hn⟩
        case measure => simp [intOf]; omega
    · have hr := Lib.hid (any_none HN (by omega))
      clear HN
      go_wp2
      go_ret
      exact ⟨by rw [hr.out]; rfl, rfl⟩

theorem insAll_step {xs acc : List Int} {k : Nat} (hk : k < xs.length) : insAll (xs.take (k + 1)) acc = ins xs[k] (insAll (xs.take k) acc) := by
  rw [List.take_succ_eq_append_getElem hk]
  unfold insAll
  rw [List.foldl_append]
  rfl

set_option maxHeartbeats 2000000 in
theorem rset_calls (H : PH) (w : World) (A : Option Addr) (c : Nat) (xs : List Int) (hI : In H w) (hx : Sl RI 1 H A xs) (hb : (xs.length + 1) * 8 ≤ 140737488355328) :
    Calls Tryd.prog 17 #[.slice A xs.length c] w fun e w' => ∃ v', e = .returned v' ∧ w'.ownsRow w.heap.size 3 1 v' (insAll xs []).length ((insAll xs []).map (Value.int .i64)) ∧ Below w.heap.size w w' := by
  have hm := hx.le
  go_enter Tryd.func17, Tryd.ntmps17
  go_wp2
  go_loopw [3, 4] (fun v3 v4 W => ∃ k : Nat, k ≤ xs.length ∧ v4 = .int .i64 k ∧ W.ownsRow w.heap.size 3 1 v3 (insAll (xs.take k) []).length ((insAll (xs.take k) []).map (Value.int .i64)) ∧ Below w.heap.size w W) (fun _ v4 _ => xs.length - (intOf v4).toNat)
  case atStart => exact ⟨0, by omega, rfl, World.ownsRow_nil _ _ _ _, Below.refl _ _⟩
  case round =>
    obtain ⟨k, hk, rfl, HO, HB⟩ := hrel
    have hle := insAll_length_le (xs.take k) []
    have hle2 : (xs.take k).length ≤ k := List.length_take_le _ _
    simp only [List.length_nil, Nat.add_zero] at hle
    have HO' := Lib.hid HO
    by_cases hlt : k < xs.length
    · obtain ⟨b, off, rfl, hc⟩ := hx.get1 hlt
      have hc' := rdW hI HB hc
      clear hc
      obtain ⟨A5, c5, hv5, _⟩ := own_slice HO
      clear HO
      subst hv5
      have hstep := Lib.hid (insAll_step (acc := []) hlt)
      go_wp2_with (go_at_call 20; go_must (refine (put_calls _ w.heap.size _ _ _ HO'.out HB.size (insAll_rising List.Pairwise.nil) (by omega)).mono ?_; rintro e w2 ⟨v', rfl, hown, hg, hat⟩; have HR3 := Lib.hid hown; clear hown; have hg' := Lib.hid hg; clear hg hat))
      have hrb := fun k hk => own_base HO'.out k hk
      go_roundw
      case rel =>
        refine ⟨k + 1, by omega, by go_num, ?_, HB.grown hg'.out HB.size (fun k hk => hrb k hk)⟩
        rw [hstep.out]
        exact HR3.out
      case measure => simp [intOf]; omega
    · obtain rfl : k = xs.length := by omega
      rw [List.take_length] at HO'
      obtain ⟨A5, c5, hv5, _⟩ := own_slice HO
      clear HO
      subst hv5
      go_wp2
      go_ret
      have h := HO'.out
      rw [List.take_length] at h ⊢
      exact ⟨_, rfl, h, HB⟩

set_option maxHeartbeats 2000000 in
theorem runion_calls (H : PH) (w : World) (A B : Option Addr) (ca cb : Nat) (xs ys : List Int) (hI : In H w) (hx : Sl RI 1 H A xs) (hy : Sl RI 1 H B ys) (hb : (xs.length + ys.length + 1) * 8 ≤ 140737488355328) :
    Calls Tryd.prog 16 #[.slice A xs.length ca, .slice B ys.length cb] w fun e w' => ∃ v', e = .returned v' ∧ w'.ownsRow w.heap.size 3 1 v' (insAll ys (insAll xs [])).length ((insAll ys (insAll xs [])).map (Value.int .i64)) ∧ Below w.heap.size w w' := by
  have hm := hy.le
  have hla := insAll_length_le xs []
  simp only [List.length_nil, Nat.add_zero] at hla
  go_enter Tryd.func16, Tryd.ntmps16
  go_wp2_with (go_at_call 17; go_must (refine (rset_calls H w A ca xs hI hx (by omega)).mono ?_; rintro e w1 ⟨v1, rfl, hown1, HB1⟩; have HO1 := Lib.hid hown1; clear hown1))
  obtain ⟨A1, c1, hv1, _⟩ := own_slice HO1.out
  subst hv1
  go_loopw [5, 6] (fun v5 v6 W => ∃ k : Nat, k ≤ ys.length ∧ v6 = .int .i64 k ∧ W.ownsRow w.heap.size 3 1 v5 (insAll (ys.take k) (insAll xs [])).length ((insAll (ys.take k) (insAll xs [])).map (Value.int .i64)) ∧ Below w.heap.size w W) (fun _ v6 _ => ys.length - (intOf v6).toNat)
  case atStart => exact ⟨0, by omega, rfl, HO1.out, HB1⟩
  case round =>
    obtain ⟨k, hk, rfl, HO, HB⟩ := hrel
    have hle := insAll_length_le (ys.take k) (insAll xs [])
    have hle2 : (ys.take k).length ≤ k := List.length_take_le _ _
    have HO' := Lib.hid HO
    clear HO1 HB1
    by_cases hlt : k < ys.length
    · obtain ⟨b, off, rfl, hc⟩ := hy.get1 hlt
      have hc' := rdW hI HB hc
      clear hc
      obtain ⟨A5, c5, hv5, _⟩ := own_slice HO
      clear HO
      subst hv5
      have hstep := Lib.hid (insAll_step (acc := insAll xs []) hlt)
      go_wp2_with (go_at_call 20; go_must (refine (put_calls _ w.heap.size _ _ _ HO'.out HB.size (insAll_rising (insAll_rising List.Pairwise.nil)) (by omega)).mono ?_; rintro e w2 ⟨v', rfl, hown, hg, hat⟩; have HR3 := Lib.hid hown; clear hown; have hg' := Lib.hid hg; clear hg hat))
      have hrb := fun k hk => own_base HO'.out k hk
      go_roundw
      case rel =>
        refine ⟨k + 1, by omega, by go_num, ?_, HB.grown hg'.out HB.size (fun k hk => hrb k hk)⟩
        rw [hstep.out]
        exact HR3.out
      case measure => simp [intOf]; omega
    · obtain rfl : k = ys.length := by omega
      obtain ⟨A5, c5, hv5, _⟩ := own_slice HO
      clear HO
      subst hv5
      go_wp2
      go_ret
      have h := HO'.out
      rw [List.take_length] at h ⊢
      exact ⟨_, rfl, h, HB⟩
end Go.Proofs.YteoeahmfpohpeaaDoor
