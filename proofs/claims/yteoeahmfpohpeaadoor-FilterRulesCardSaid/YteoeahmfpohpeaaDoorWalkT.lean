/- Walks: lodestarref08.in, Inter. -/
import Derived.Test.YteoeahmfpohpeaaDoorWalkS
namespace Go.Proofs.YteoeahmfpohpeaaDoor
open Go.RowKit Go.Shelf
set_option maxRecDepth 100000
set_option linter.unusedVariables false
set_option linter.unusedSimpArgs false

theorem in_at {n : Int} {xs : List Int} {k : Nat} (hr : Rising xs) (h1 : LtN xs n k) (h2 : GeN xs n k) (hk : k < xs.length) : decide (n ∈ xs) = (xs[k] == n) := by
  rw [Bool.eq_iff_iff, decide_eq_true_iff, beq_iff_eq]
  constructor
  · intro hm
    obtain ⟨j, hj, e⟩ := List.mem_iff_getElem.1 hm
    rcases Nat.lt_trichotomy j k with h | h | h
    · have := h1 j hj h; omega
    · subst h; exact e
    · have := (List.pairwise_iff_getElem.1 hr) k j hk hj h
      have := h2 k hk (Nat.le_refl _)
      omega
  · intro e; subst e; exact List.getElem_mem hk
theorem in_end {n : Int} {xs : List Int} {k : Nat} (h1 : LtN xs n k) (hk : xs.length ≤ k) : decide (n ∈ xs) = false := by
  simp only [decide_eq_false_iff_not]
  intro hm
  obtain ⟨j, hj, e⟩ := List.mem_iff_getElem.1 hm
  have := h1 j hj (by omega)
  omega

set_option maxHeartbeats 1000000 in
theorem in_calls (H : PH) (w : World) (A : Option Addr) (c : Nat) (xs : List Int) (n : Int) (hI : In H w) (hx : Sl RI 1 H A xs) (hr : Rising xs) :
    Calls Tryd.prog 28 #[.slice A xs.length c, .int .i64 n] w fun e w' => e = .returned (.bool (decide (n ∈ xs))) ∧ w' = w := by
  have hm : xs.length ≤ 140737488355328 := hx.1
  have HR := Lib.hid hr
  clear hr
  go_enter Tryd.func28, Tryd.ntmps28
  go_wp2
  go_loop [5, 6] (fun t5 t6 => ∃ lo hi : Nat, lo ≤ hi ∧ hi ≤ xs.length ∧ t5 = .int .i64 lo ∧ t6 = .int .i64 hi ∧ LtN xs n lo ∧ GeN xs n hi) (fun t5 t6 => (intOf t6).toNat - (intOf t5).toNat)
  case atStart => exact ⟨0, xs.length, by omega, by omega, rfl, rfl, fun _ _ h => by omega, fun _ _ h => by omega⟩
  case round =>
    obtain ⟨lo, hi, hlh, hhl, rfl, rfl, hL, hG⟩ := hrel
    by_cases hlt : lo < hi
    · have hmid : (lo + hi) / 2 < xs.length := by omega
      have hm1 : lo ≤ (lo + hi) / 2 := by omega
      have hm2 : (lo + hi) / 2 < hi := by omega
      obtain ⟨b, off, rfl, hc⟩ := hx.get1 hmid
      have hc' := hI.cell hc
      clear hc
      by_cases hcmp : xs[(lo + hi) / 2] < n
      · have hd : decide (xs[(lo + hi) / 2] < n) = true := by simp [hcmp]
        have hL' := LtN.up HR.out hmid hcmp
        clear hcmp hL
        go_wp2
        go_round
        case rel => exact ⟨(lo + hi) / 2 + 1, hi, by omega, by omega, by rw [show ((lo : Int) + hi) / 2 + 1 = (((lo + hi) / 2 + 1 : Nat) : Int) by omega], rfl, hL', hG⟩
        case measure => simp [intOf]; omega
      · have hd : decide (xs[(lo + hi) / 2] < n) = false := by simp [hcmp]
        have hG' := GeN.down HR.out hmid hcmp
        clear hcmp hG
        go_wp2
        go_round
        case rel => exact ⟨lo, (lo + hi) / 2, by omega, by omega, rfl, by rw [show ((lo : Int) + hi) / 2 = (((lo + hi) / 2 : Nat) : Int) by omega], hL, hG'⟩
        case measure => simp [intOf]; omega
    · obtain rfl : lo = hi := by omega
      by_cases hk : lo < xs.length
      · obtain ⟨b, off, rfl, hc⟩ := hx.get1 hk
        have hc' := hI.cell hc
        clear hc
        have hin := Lib.hid (in_at HR.out hL hG hk)
        clear hL hG
        go_wp2
        go_ret
        exact ⟨by rw [hin.out]; rfl, rfl⟩
      · have hin := Lib.hid (in_end hL (by omega))
        clear hL hG
        go_wp2
        go_ret
        exact ⟨by rw [hin.out]; rfl, rfl⟩

/-- What two lists share. -/
def both (xs ys : List Int) : List Int := xs.filter fun n => decide (n ∈ ys)
theorem both_succ {xs ys : List Int} {k : Nat} (hk : k < xs.length) : both (xs.take (k + 1)) ys = if decide (xs[k] ∈ ys) = true then both (xs.take k) ys ++ [xs[k]] else both (xs.take k) ys := by
  rw [List.take_succ_eq_append_getElem hk]
  unfold both
  rw [List.filter_append]
  by_cases h : xs[k] ∈ ys <;> simp [h]
theorem both_length_le (xs ys : List Int) : (both xs ys).length ≤ xs.length := List.length_filter_le _ _

set_option maxHeartbeats 2000000 in
theorem inter_calls (H : PH) (w : World) (A B : Option Addr) (ca cb : Nat) (xs ys : List Int) (hI : In H w) (hx : Sl RI 1 H A xs) (hy : Sl RI 1 H B ys) (hb : (xs.length + ys.length + 1) * 8 ≤ 140737488355328) :
    Calls Tryd.prog 15 #[.slice A xs.length ca, .slice B ys.length cb] w fun e w' => ∃ A' c', e = .returned (.slice A' (both (insAll xs []) (insAll ys [])).length c') ∧ Below w.heap.size w w' := by
  have hlx := insAll_length_le xs []
  have hly := insAll_length_le ys []
  simp only [List.length_nil, Nat.add_zero] at hlx hly
  have hrY : Rising (insAll ys []) := insAll_rising List.Pairwise.nil
  have hSX := fun W hW => rset_calls H W A ca xs hW hx (by omega)
  have hSY := fun W hW => rset_calls H W B cb ys hW hy (by omega)
  generalize insAll xs [] = X at *
  generalize insAll ys [] = Y at *
  go_enter Tryd.func15, Tryd.ntmps15
  go_wp2_with fail
  refine (hSX w hI).mono ?_
  rintro e w1 ⟨v1, rfl, hown1, HB1⟩
  obtain ⟨A1, c1, rfl, _, _, hs1⟩ := own_reads hown1 (by omega)
  have HS1 := Lib.hid hs1
  clear hs1 hown1
  go_wp2_with fail
  refine (hSY w1 (hI.below HB1)).mono ?_
  rintro e w2 ⟨v2, rfl, hown2, hb2⟩
  have HB2 := below_step hb2 HB1
  obtain ⟨A2, c2, rfl, _, _, hs2⟩ := own_reads hown2 (by omega)
  have hs1' : Sl RI 1 (hp w2) A1 X := HS1.out.mono ((In.hp w1).below hb2) (fun _ _ _ h => h)
  have hin := fun W (hW : In (hp w2) W) n => in_calls (hp w2) W A2 c2 Y n hW hs2 hrY
  have HIN := Lib.hid hin
  have HB2' := Lib.hid HB2
  have hz2 := hb2.size
  clear hin hown2 HS1 hb2 HB1 HB2
  go_wp2
  go_loopw [5, 6] (fun v5 v6 W => ∃ k : Nat, k ≤ X.length ∧ v6 = .int .i64 k ∧ W.ownsRow w2.heap.size 3 1 v5 (both (X.take k) Y).length ((both (X.take k) Y).map (Value.int .i64)) ∧ Below w2.heap.size w2 W) (fun _ v6 _ => X.length - (intOf v6).toNat)
  case atStart => exact ⟨0, by omega, rfl, World.ownsRow_nil _ _ _ _, Below.refl _ _⟩
  case round =>
    obtain ⟨k, hk, rfl, HO, HB⟩ := hrel
    have hle := both_length_le (X.take k) Y
    have hle2 : (X.take k).length ≤ k := List.length_take_le _ _
    have HO' := Lib.hid HO
    have hle3 := hs1'.1
    by_cases hlt : k < X.length
    · obtain ⟨b, off, rfl, hc⟩ := hs1'.get1 hlt
      have hc' := rdW (In.hp w2) HB hc
      clear hc
      obtain ⟨A5, c5, hv5, _⟩ := own_slice HO
      clear HO
      subst hv5
      have hsucc := Lib.hid (both_succ (ys := Y) hlt)
      cases hpk : decide (X[k] ∈ Y)
      · go_wp2_with (go_at_call 28; go_must (refine (HIN.out _ ((In.hp w2).below HB) X[k]).mono ?_; rintro e w3 ⟨rfl, rfl⟩; rw [hpk]))
        go_roundw
        case rel => exact ⟨k + 1, by omega, by go_num, by rw [hsucc.out, hpk]; exact HO'.out, HB⟩
        case measure => simp [intOf]; omega
      · go_wp2_with (first
          | (go_at_call 28; go_must (refine (HIN.out _ ((In.hp w2).below HB) X[k]).mono ?_; rintro e w3 ⟨rfl, rfl⟩; rw [hpk]))
          | (at_builtin; go_must (refine app_new w2.heap.size rfl (.tmp 23) (.tmp 28) 29 3 (.int .i64 0) 1 8 rfl Tryd.underlying29 Tryd.infoInt rfl (by decide) (by decide) _ _ _ [.int .i64 X[k]] rfl rfl rfl (by simp [Value.oneCell']) HO'.out HB.size (by omega) ?_; intro g cap1 w3 hown1 hg1 hat1; have HR3 := Lib.hid hown1; clear hown1; have hg' := Lib.hid hg1; clear hg1 hat1)))
        have hrb := fun k hk => own_base HO'.out k hk
        go_roundw
        case rel =>
          refine ⟨k + 1, by omega, by go_num, ?_, HB.grown hg'.out HB.size (fun k hk => hrb k hk)⟩
          rw [hsucc.out, hpk]
          have := HR3.out
          simpa using this
        case measure => simp [intOf]; omega
    · obtain rfl : k = X.length := by omega
      rw [List.take_length] at HO
      obtain ⟨A5, c5, hv5, _⟩ := own_slice HO
      clear HO
      subst hv5
      go_wp2
      go_ret
      exact ⟨A5, c5, rfl, below_step HB HB2'.out⟩
end Go.Proofs.YteoeahmfpohpeaaDoor
