/- Walks: manifest.file; the document's number, name. -/
import Derived.Test.YteeckkkcebljmaaDoorMWalkA
namespace Go.Proofs.YteeckkkcebljmaaDoor
open Go.RowKit Go.Shelf Go.Sort
set_option maxRecDepth 100000
set_option linter.unusedVariables false
set_option linter.unusedSimpArgs false

theorem bl_length (s : ByteArray) : (bl s).length = s.size := Array.length_toList
theorem bl_cons (s : ByteArray) (h : 0 < s.size) : bl s = s[0] :: bl (s.extract 1 s.size) := by
  unfold bl
  rw [Lib.extract_data]
  obtain ⟨⟨l⟩⟩ := s
  cases l with
  | nil => simp [ByteArray.size] at h
  | cons c r =>
    show c :: r = c :: _
    simp [ByteArray.size]
theorem bl_get (s : ByteArray) (k : Nat) (h : k < s.size) : (bl s)[k]? = some s[k] := by
  unfold bl
  obtain ⟨⟨l⟩⟩ := s
  simp only [ByteArray.size, List.size_toArray] at h
  rw [List.getElem?_eq_getElem h]
  rfl
theorem fileP_b (s : ByteArray) (next : Int) (h : 2 ≤ s.size) : fileP (bl s) next = ((s[0].toNat == 115 || s[0].toNat == 108) && (numP (bl (s.extract 1 s.size))).2 && decide (1 ≤ (numP (bl (s.extract 1 s.size))).1) && decide ((numP (bl (s.extract 1 s.size))).1 < next)) := by
  have hne : (bl (s.extract 1 s.size)).isEmpty = false := by
    have := bl_length (s.extract 1 s.size)
    rw [ByteArray.size_extract] at this
    cases hb : bl (s.extract 1 s.size) with
    | nil => rw [hb] at this; simp at this; omega
    | cons _ _ => rfl
  rw [bl_cons s (by omega)]
  simp only [fileP, hne, Bool.not_false, Bool.and_true]
  congr 3
  rw [Bool.eq_iff_iff]
  simp [← UInt8.toNat_inj]
theorem fileP_short (s : ByteArray) (next : Int) (h : s.size < 2) : fileP (bl s) next = false := by
  have h1 := bl_length s
  match hb : bl s with
  | [] => rfl
  | [c] => simp [fileP]
  | _ :: _ :: _ => rw [hb] at h1; simp at h1; omega
set_option maxHeartbeats 1000000 in
theorem file_calls (H : PH) (hG : GL H) (w : World) (hI : In H w) (s : ByteArray) (hs : s.size ≤ 140737488355328) (next : Int) :
    Calls Tryd.prog 23 #[.string s, .int .i64 next] w fun e w' => e = .returned (.bool (fileP (bl s) next)) ∧ Below w.heap.size w w' := by
  by_cases h2 : 2 ≤ s.size
  · have hf := fileP_b s next h2
    have hN := number_calls H hG w hI (s.extract 1 s.size) (by rw [ByteArray.size_extract]; omega)
    obtain ⟨⟨n, ok⟩, hno⟩ : ∃ x, x = numP (bl (s.extract 1 s.size)) := ⟨_, rfl⟩
    rw [← hno] at hf hN
    have hF := Lib.hid hf
    have HN := Lib.hid hN
    clear hf hN hno
    cases ok
    all_goals
      go_enter Tryd.func23, Tryd.ntmps23
      go_wp2_with (go_at_call 19; go_must (refine HN.out.mono ?_; rintro e w1 ⟨rfl, hb1⟩; have HB1 := Lib.hid hb1; clear hb1))
      all_goals
        go_ret
        refine ⟨?_, by first | exact HB1.out | exact Below.refl _ _⟩
        rw [hF.out]
        first | (simp_all; done) | (simp_all; omega)
  · have hf := Lib.hid (fileP_short s next (by omega))
    go_enter Tryd.func23, Tryd.ntmps23
    go_wp2_with fail
    go_ret
    exact ⟨by rw [hf.out]; rfl, Below.refl _ _⟩

theorem numR_step (s : ByteArray) (k : Nat) (hk : k < s.size) (acc : Int) (h1 : 48 ≤ s[k].toNat) (h2 : s[k].toNat ≤ 57) : numRgo (acc * 10 + ((s[k].toNat : Int) - 48)) ((bl s).drop (k + 1)) = numRgo acc ((bl s).drop k) := by
  have hb := bl_length s
  rw [List.drop_eq_getElem_cons (i := k) (by omega)]
  have : (bl s)[k]'(by omega) = s[k] := by
    have := bl_get s k hk
    rw [List.getElem?_eq_getElem (by omega)] at this
    exact Option.some.inj this
  rw [this, numRgo, if_neg (by omega)]
theorem numR_bad (s : ByteArray) (k : Nat) (hk : k < s.size) (acc : Int) (h : s[k].toNat < 48 ∨ 57 < s[k].toNat) : numRgo acc ((bl s).drop k) = -1 := by
  have hb := bl_length s
  rw [List.drop_eq_getElem_cons (i := k) (by omega)]
  have : (bl s)[k]'(by omega) = s[k] := by
    have := bl_get s k hk
    rw [List.getElem?_eq_getElem (by omega)] at this
    exact Option.some.inj this
  rw [this, numRgo, if_pos h]
theorem numR_b (s : ByteArray) (h0 : 0 < s.size) (h16 : s.size ≤ 16) (hc : ¬ (1 < s.size ∧ s[0].toNat = 48)) : numR (bl s) = numRgo 0 (bl s) := by
  have hb := bl_length s
  unfold numR
  rw [if_neg]
  rintro (h | h | ⟨h1, h2⟩)
  · rw [h] at hb; simp at hb; omega
  · omega
  · rw [bl_cons s h0] at h2
    simp at h2
    exact hc ⟨by omega, by rw [h2]; rfl⟩
theorem numR_no (s : ByteArray) (h : s.size = 0 ∨ 16 < s.size ∨ ∃ h0 : 0 < s.size, 1 < s.size ∧ s[0].toNat = 48) : numR (bl s) = -1 := by
  have hb := bl_length s
  unfold numR
  rw [if_pos]
  rcases h with h | h | ⟨h0, h1, h2⟩
  · left; exact List.length_eq_zero_iff.1 (by omega)
  · right; left; omega
  · right; right
    refine ⟨by omega, ?_⟩
    rw [bl_cons s h0]
    simp [← UInt8.toNat_inj, h2]
theorem toList_nil {s : ByteArray} (h : s.size = 0) : s.toList = [] := by
  rw [ByteArray.toList_eq]
  exact List.length_eq_zero_iff.1 (by rw [Array.length_toList]; exact h)
theorem toList_pos {s : ByteArray} (h : 0 < s.size) : s.toList.isEmpty = false := by
  rw [ByteArray.toList_eq]
  have : s.data.toList.length = s.size := Array.length_toList
  cases hl : s.data.toList with
  | nil => rw [hl] at this; simp at this; omega
  | cons _ _ => rfl
theorem toList_pos2 {s : ByteArray} (h : 0 < s.size) : ¬ s.toList = [] := fun e => by
  have := toList_pos h
  rw [e] at this
  cases this
set_option maxHeartbeats 1000000 in
theorem rnumber_calls (w : World) (s : ByteArray) (hs : s.size ≤ 140737488355328) :
    Calls Tryd.prog 21 #[.string s] w fun e w' => e = .returned (.int .i64 (numR (bl s))) ∧ w = w' := by
  by_cases hbad : s.size = 0 ∨ 16 < s.size ∨ ∃ h0 : 0 < s.size, 1 < s.size ∧ s[0].toNat = 48
  · have hf := Lib.hid (numR_no s hbad)
    rcases hbad with h | h | ⟨h0, h1, h2⟩
    · have he := toList_nil h
      go_enter Tryd.func21, Tryd.ntmps21
      go_wp2_with fail
      go_ret
      exact ⟨by rw [hf.out]; rfl, rfl⟩
    · have he := toList_pos (show 0 < s.size by omega)
      have he2 := toList_pos2 (show 0 < s.size by omega)
      go_enter Tryd.func21, Tryd.ntmps21
      go_wp2_with fail
      go_ret
      exact ⟨by rw [hf.out]; rfl, rfl⟩
    · have he := toList_pos h0
      have he2 := toList_pos2 h0
      have h3 : ((s[0].toNat : Int) == 48) = true := by simp; omega
      by_cases h16 : 16 < s.size
      all_goals
        go_enter Tryd.func21, Tryd.ntmps21
        go_wp2_with fail
        go_ret
        exact ⟨by rw [hf.out]; rfl, rfl⟩
  · have h0 : 0 < s.size := by omega
    have h16 : s.size ≤ 16 := by omega
    have hc : ¬ (1 < s.size ∧ s[0].toNat = 48) := fun h => hbad (.inr (.inr ⟨h0, h⟩))
    have hf := Lib.hid (numR_b s h0 h16 hc)
    have he := toList_pos h0
    have he2 := toList_pos2 h0
    have h3 : ((1 : Int) < s.size) → ((s[0].toNat : Int) == 48) = false := fun h => by
      simp
      omega
    have hd16 : decide ((16 : Int) < s.size) = false := by simp; omega
    clear hbad hc
    go_enter Tryd.func21, Tryd.ntmps21
    go_wp2_with fail
    all_goals
      clear h3
      go_loop [3, 4] (fun v3 v4 => ∃ (k : Nat) (acc : Int), k ≤ s.size ∧ v4 = .int .i64 k ∧ v3 = .int .i64 acc ∧ 0 ≤ acc ∧ Hid (acc < 10 ^ k) ∧ Hid (numRgo acc ((bl s).drop k) = numR (bl s))) (fun _ v4 => s.size - (intOf v4).toNat)
      case atStart => exact ⟨0, 0, by omega, rfl, rfl, by omega, by show (0 : Int) < 10 ^ 0; decide, hf.out.symm⟩
      case round =>
        obtain ⟨k, acc, hk, rfl, rfl, ha, hA, hN⟩ := hrel
        by_cases hlt : k < s.size
        · have hsmall : acc < 10000000000000000 := by
            have h1 : (10 : Int) ^ k ≤ 10 ^ 16 := by
              have := Nat.pow_le_pow_right (n := 10) (by decide) (show k ≤ 16 by omega)
              exact_mod_cast this
            have h2 := hA.out
            have h3 : (10 : Int) ^ 16 = 10000000000000000 := by decide
            omega
          have hbt : s[k].toNat < 256 := s[k].toNat_lt
          by_cases hdg : 48 ≤ s[k].toNat ∧ s[k].toNat ≤ 57
          · obtain ⟨hd1, hd2⟩ := hdg
            have hst := Lib.hid (numR_step s k hlt acc hd1 hd2)
            have hpow : Hid (acc * 10 + ((s[k].toNat : Int) - 48) < 10 ^ (k + 1)) := by
              have := hA.out
              show _ < _
              rw [Int.pow_succ]
              generalize (10 : Int) ^ k = P at *
              omega
            go_wp2_with fail
            go_round
            case rel => exact ⟨k + 1, _, by omega, by go_num, rfl, by omega, hpow, hst.out.trans hN.out⟩
            case measure => simp [intOf]; omega
          · have hbad : s[k].toNat < 48 ∨ 57 < s[k].toNat := by omega
            have hst := Lib.hid (numR_bad s k hlt acc hbad)
            rcases hbad with hb | hb
            all_goals
              clear hdg
              go_wp2_with fail
              go_ret
              exact ⟨by rw [← hN.out, hst.out]; rfl, rfl⟩
        · obtain rfl : k = s.size := by omega
          have hend : numRgo acc ((bl s).drop s.size) = if 4503599627370496 < acc then -1 else acc := by
            rw [List.drop_eq_nil_of_le (by rw [bl_length]; omega)]
            rfl
          have hE := Lib.hid (hend.symm.trans hN.out)
          clear hend
          by_cases hbig : 4503599627370496 < acc
          · go_wp2_with fail
            go_ret
            exact ⟨by rw [← hE.out, if_pos hbig]; rfl, rfl⟩
          · go_wp2_with fail
            go_ret
            exact ⟨by rw [← hE.out, if_neg (by omega)]; rfl, rfl⟩
theorem fileR_b (s : ByteArray) (next : Int) (h : 0 < s.size) : fileR (bl s) next = ((s[0].toNat == 115 || s[0].toNat == 108) && decide (1 ≤ numR (bl (s.extract 1 s.size))) && decide (numR (bl (s.extract 1 s.size)) < next)) := by
  rw [bl_cons s h]
  simp only [fileR]
  congr 2
  rw [Bool.eq_iff_iff]
  simp [← UInt8.toNat_inj]
set_option maxHeartbeats 1000000 in
theorem name_calls (w : World) (s : ByteArray) (hs : s.size ≤ 140737488355328) (next : Int) :
    Calls Tryd.prog 22 #[.string s, .int .i64 next] w fun e w' => e = .returned (.bool (fileR (bl s) next)) ∧ w = w' := by
  by_cases h2 : 0 < s.size
  · have hf := fileR_b s next h2
    have hN := rnumber_calls w (s.extract 1 s.size) (by rw [ByteArray.size_extract]; omega)
    obtain ⟨n, hno⟩ : ∃ x, x = numR (bl (s.extract 1 s.size)) := ⟨_, rfl⟩
    rw [← hno] at hf hN
    have hF := Lib.hid hf
    have HN := Lib.hid hN
    have he := toList_pos h2
    have he2 := toList_pos2 h2
    clear hf hN hno
    go_enter Tryd.func22, Tryd.ntmps22
    go_wp2_with (go_at_call 21; go_must (refine HN.out.mono ?_; rintro e w1 ⟨rfl, rfl⟩))
    all_goals
      go_ret
      refine ⟨?_, rfl⟩
      rw [hF.out]
      first | (simp_all; done) | (simp_all; omega)
  · have hf : fileR (bl s) next = false := by
      have := bl_length s
      cases hb : bl s with
      | nil => rfl
      | cons _ _ => rw [hb] at this; simp at this; omega
    have hF := Lib.hid hf
    have he := toList_nil (s := s) (by omega)
    clear hf
    go_enter Tryd.func22, Tryd.ntmps22
    go_wp2_with fail
    go_ret
    exact ⟨by rw [hF.out]; rfl, rfl⟩
end Go.Proofs.YteeckkkcebljmaaDoor
