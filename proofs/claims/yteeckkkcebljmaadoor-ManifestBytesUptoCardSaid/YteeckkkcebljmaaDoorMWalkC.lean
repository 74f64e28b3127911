/- Walks: the document's word, sum and digits; the program's sum. -/
import Derived.Test.YteeckkkcebljmaaDoorMWalkB
import Derived.Laws.Bits64
import Derived.Deep.RegionHeld3
namespace Go.Proofs.YteeckkkcebljmaaDoor
open Go.RowKit Go.Shelf Go.Sort
set_option maxRecDepth 100000
set_option linter.unusedVariables false
set_option linter.unusedSimpArgs false

theorem upTo10_none : ∀ {s : Str}, (10 : UInt8) ∉ s → upTo10 s = none
  | [], _ => rfl
  | c :: r, h => by
    simp at h
    rw [upTo10, if_neg (fun e => h.1 e.symm), upTo10_none h.2]
    rfl
theorem bl_extract (s : ByteArray) (a b : Nat) : bl (s.extract a b) = ((bl s).drop a).take (b - a) := by
  unfold bl
  rw [Lib.extract_data]
theorem bl_at (s : ByteArray) (k : Nat) (hk : k < s.size) : (bl s)[k]'(by rw [bl_length]; exact hk) = s[k] := by
  have := bl_get s k hk
  rw [List.getElem?_eq_getElem (by rw [bl_length]; exact hk)] at this
  exact Option.some.inj this
/-- A line's end at k. -/
theorem word_hit (s b : ByteArray) (k : Nat) (hb : b.size ≤ k) (hk : k < s.size) (hpre : (bl s).take b.size = bl b) (hno : ∀ j (hj : j < s.size), b.size ≤ j → j < k → s[j].toNat ≠ 10) (h10 : s[k].toNat = 10) :
    word (bl s) (bl b) = (bl (s.extract b.size k), bl (s.extract (k + 1) s.size), true) := by
  have hl := bl_length s
  have e : bl s = bl b ++ (bl (s.extract b.size k)) ++ 10 :: bl (s.extract (k + 1) s.size) := by
    rw [← hpre, bl_extract, bl_extract]
    have h1 : (bl s).take k = (bl s).take b.size ++ ((bl s).drop b.size).take (k - b.size) := by
      rw [List.take_drop, Nat.add_sub_cancel' hb]
      have := List.take_append_drop b.size ((bl s).take k)
      rw [List.take_take, Nat.min_eq_left hb] at this
      exact this.symm
    rw [← h1]
    have h2 : (bl s).drop k = 10 :: ((bl s).drop (k + 1)).take (s.size - (k + 1)) := by
      rw [List.drop_eq_getElem_cons (i := k) (by omega), bl_at s k hk, List.take_of_length_le (by rw [List.length_drop]; omega)]
      congr 1
      exact UInt8.toNat_inj.1 h10
    rw [← h2, List.take_append_drop]
  conv => lhs; rw [e]
  refine word_app _ _ _ ?_
  intro hm
  obtain ⟨j, hj, hje⟩ := List.getElem_of_mem hm
  rw [bl_extract] at hj
  have hj2 : j < k - b.size := by
    have := hj; simp at this; omega
  have hg : (bl (s.extract b.size k))[j]? = some 10 := by rw [List.getElem?_eq_getElem (by rw [bl_extract]; exact hj), hje]
  rw [bl_extract, List.getElem?_take, if_pos hj2, List.getElem?_drop, bl_get s (b.size + j) (by omega)] at hg
  have := hno (b.size + j) (by omega) (by omega) (by omega)
  apply this
  have e10 := Option.some.inj hg
  rw [e10]
  rfl
theorem word_miss (s b : ByteArray) (hno : ∀ j (hj : j < s.size), b.size ≤ j → s[j].toNat ≠ 10) : word (bl s) (bl b) = ([], bl s, false) := by
  have hl := bl_length s
  unfold word
  rw [bl_length b]
  split
  · rw [upTo10_none]
    intro hm
    obtain ⟨j, hj, hje⟩ := List.getElem_of_mem hm
    have hj2 : j + b.size < s.size := by simp at hj; omega
    have hg : ((bl s).drop b.size)[j]? = some 10 := by rw [List.getElem?_eq_getElem hj, hje]
    rw [List.getElem?_drop, bl_get s (b.size + j) (by omega)] at hg
    apply hno (b.size + j) (by omega) (by omega)
    have e10 := Option.some.inj hg
    rw [e10]
    rfl
  · rfl
theorem word_not (s b : ByteArray) (h : (bl s).take b.size ≠ bl b) : word (bl s) (bl b) = ([], bl s, false) := by
  unfold word
  rw [bl_length b, if_neg h]
/-- What a contract says of word's three results. -/
def wordV (x : Str × Str × Bool) : Value := .tuple #[.string (toB x.1), .string (toB x.2.1), .bool x.2.2]
set_option maxHeartbeats 1000000 in
theorem word_calls (w : World) (s b : ByteArray) (hs : s.size ≤ 140737488355328) (hb : b.size ≤ 140737488355328) :
    Calls Tryd.prog 20 #[.string s, .string b] w fun e w' => e = .returned (wordV (word (bl s) (bl b))) ∧ Below w.heap.size w w' := by
  by_cases hpre : (bl s).take b.size = bl b
  · have hle : b.size ≤ s.size := by
      have := congrArg List.length hpre
      rw [List.length_take, bl_length, bl_length] at this
      omega
    have heq : ((s.extract 0 b.size).toList == b.toList) = true := by
      rw [Lib.bytes_beq_iff]
      apply bl_inj
      rw [bl_extract]
      simpa using hpre
    have hP := Lib.hid hpre
    clear hpre
    go_enter Tryd.func20, Tryd.ntmps20
    go_wp2_with fail
    go_loopw [7] (fun v7 W => ∃ k : Nat, b.size ≤ k ∧ k ≤ s.size ∧ v7 = .int .i64 k ∧ Hid (∀ j (hj : j < s.size), b.size ≤ j → j < k → s[j].toNat ≠ 10) ∧ Below w.heap.size w W) (fun v7 _ => s.size - (intOf v7).toNat)
    case atStart => exact ⟨b.size, by omega, hle, rfl, fun j _ h1 h2 => by omega, Below.refl _ _⟩
    case round =>
      obtain ⟨k, hk1, hk2, rfl, hno, HB⟩ := hrel
      by_cases hlt : k < s.size
      · by_cases h10 : s[k].toNat = 10
        · have hw := Lib.hid (word_hit s b k hk1 hlt hP.out hno.out h10)
          have h11 : ((s[k].toNat : Int) == 10) = true := by simp; omega
          have b1 : ((b.size : Nat) : Int) ≤ (k : Int) := by omega
          have b2 : (k : Int) ≤ ((s.size : Nat) : Int) := by omega
          have b3 : (k : Int) + 1 ≤ ((s.size : Nat) : Int) := by omega
          have b4 : IntKind.i64.wrap ((k : Int) + 1) = (k : Int) + 1 := IntWalk.i64_in _ (by omega)
          have b5 : (0 : Int) ≤ (k : Int) + 1 := by omega
          have b6 : ((k : Int) + 1).toNat = k + 1 := by omega
          go_wp2_with fail
          go_quiet (fail)
          go_wp2_with fail
          go_ret3
          exact ⟨by rw [hw.out]; unfold wordV; simp only [toB_bl]; rfl, below_drewN HB _⟩
        · have h11 : ((s[k].toNat : Int) == 10) = false := by simp; omega
          have hno2 : Hid (∀ j (hj : j < s.size), b.size ≤ j → j < k + 1 → s[j].toNat ≠ 10) := Lib.hid (fun j hj h1 h2 => by
            rcases Nat.lt_or_ge j k with h | h
            · exact hno.out j hj h1 h
            · obtain rfl : j = k := by omega
              exact h10)
          clear h10
          go_wp2_with fail
          go_roundw
          case rel => exact ⟨k + 1, by omega, by omega, by go_num, hno2, HB⟩
          case measure => simp [intOf]; omega
      · have hw := Lib.hid (word_miss s b (fun j hj h1 => hno.out j hj h1 (by omega)))
        go_wp2_with fail
        go_ret3
        exact ⟨by rw [hw.out]; unfold wordV; simp only [toB_bl]; rfl, HB⟩
  · have hw := Lib.hid (word_not s b hpre)
    by_cases hle : b.size ≤ s.size
    · have heq : ((s.extract 0 b.size).toList == b.toList) = false := by
        rw [Bool.eq_false_iff]
        intro h
        apply hpre
        have := (Lib.bytes_beq_iff _ _).1 h
        rw [← this, bl_extract, List.drop_zero, Nat.sub_zero, ByteArray.size_extract, Nat.min_eq_left hle, Nat.sub_zero]
      clear hpre
      go_enter Tryd.func20, Tryd.ntmps20
      go_wp2_with fail
      go_ret3
      exact ⟨by rw [hw.out]; unfold wordV; simp only [toB_bl]; rfl, Below.refl _ _⟩
    · clear hpre
      go_enter Tryd.func20, Tryd.ntmps20
      go_wp2_with fail
      go_ret3
      exact ⟨by rw [hw.out]; unfold wordV; simp only [toB_bl]; rfl, Below.refl _ _⟩

theorem bits_xor_u32_nat (a b : Nat) (ha : a < 4294967296) (hb : b < 4294967296) : bits .xor .u32 (a : Int) (b : Int) = ((a ^^^ b : Nat) : Int) := by
  have hx : a ^^^ b < 2 ^ 32 := Nat.xor_lt_two_pow (by omega) (by omega)
  have h1 : (BitVec.ofInt 32 (a : Int)).toNat = a := by
    rw [BitVec.ofInt_natCast, BitVec.toNat_ofNat]; exact Nat.mod_eq_of_lt (by omega)
  have h2 : (BitVec.ofInt 32 (b : Int)).toNat = b := by
    rw [BitVec.ofInt_natCast, BitVec.toNat_ofNat]; exact Nat.mod_eq_of_lt (by omega)
  show IntKind.u32.wrap ((BitVec.ofInt 32 (a : Int) ^^^ BitVec.ofInt 32 (b : Int)).toNat : Int) = _
  rw [BitVec.toNat_xor, h1, h2]
  simp only [IntKind.wrap, IntKind.bits, IntKind.signed, Bool.false_and]
  rw [if_neg (by decide)]
  have : (2 : Int) ^ 32 = 4294967296 := by decide
  omega
theorem crcGo_step (s : ByteArray) (k : Nat) (hk : k < s.size) (c : Nat) : crcGo (crcUpd c s[k]) ((bl s).drop (k + 1)) = crcGo c ((bl s).drop k) := by
  rw [List.drop_eq_getElem_cons (i := k) (by rw [bl_length]; exact hk), bl_at s k hk]
  rfl
theorem stepN_odd {j c d : Nat} (hj : j < 8) (hc : c % 2 = 1) (h : stepN (8 - j) c = d) : stepN (8 - (j + 1)) (c / 2 ^^^ 3988292384) = d := by
  rw [← h, show 8 - j = (8 - (j + 1)) + 1 by omega]
  simp only [stepN, step1]
  rw [if_pos hc]
theorem stepN_even {j c d : Nat} (hj : j < 8) (hc : ¬ c % 2 = 1) (h : stepN (8 - j) c = d) : stepN (8 - (j + 1)) (c / 2) = d := by
  rw [← h, show 8 - j = (8 - (j + 1)) + 1 by omega]
  simp only [stepN, step1]
  rw [if_neg hc]
set_option maxHeartbeats 1000000 in
theorem rsum_calls (w : World) (s : ByteArray) (hs : s.size ≤ 140737488355328) :
    Calls Tryd.prog 16 #[.string s] w fun e w' => e = .returned (.int .u32 (crc (bl s))) ∧ w = w' := by
  go_enter Tryd.func16, Tryd.ntmps16
  go_wp2_with fail
  go_loop [3, 4, 5] (fun v3 v4 _ => ∃ (k c : Nat), k ≤ s.size ∧ v4 = .int .i64 k ∧ v3 = .int .u32 c ∧ c < 4294967296 ∧ Hid (crcGo c ((bl s).drop k) = crcGo 4294967295 (bl s))) (fun _ v4 _ => s.size - (intOf v4).toNat)
  case atStart => exact ⟨0, 4294967295, by omega, rfl, rfl, by omega, rfl⟩
  case round =>
    obtain ⟨k, c, hk, rfl, rfl, hc, hN⟩ := hrel
    by_cases hlt : k < s.size
    · have hbt : s[k].toNat < 256 := s[k].toNat_lt
      obtain ⟨d, hd⟩ : ∃ d, d = c ^^^ s[k].toNat := ⟨_, rfl⟩
      have hx := bits_xor_u32_nat c s[k].toNat hc (by omega)
      rw [← hd] at hx
      have hdl : d < 4294967296 := hd ▸ Nat.xor_lt_two_pow (n := 32) hc (by omega)
      have hst : Hid (crcGo (stepN 8 d) ((bl s).drop (k + 1)) = crcGo 4294967295 (bl s)) := Lib.hid (by
        rw [← hN.out, ← crcGo_step s k hlt, hd]
        rfl)
      clear hd hN
      go_wp2_with fail
      clear hx
      go_loop [3, 5] (fun v3 v5 => ∃ (j c' : Nat), j ≤ 8 ∧ v5 = .int .i64 j ∧ v3 = .int .u32 c' ∧ c' < 4294967296 ∧ Hid (stepN (8 - j) c' = stepN 8 d)) (fun _ v5 => 8 - (intOf v5).toNat)
      case atStart => exact ⟨0, d, by omega, rfl, rfl, hdl, Lib.hid rfl⟩
      case round =>
        obtain ⟨j, c', hj, rfl, rfl, hc', hS⟩ := hrel
        by_cases hjlt : j < 8
        · by_cases hodd : c' % 2 = 1
          · have h1 : (((c' : Int) % 2) == 1) = true := by simp; omega
            have hx2 : bits .xor .u32 ((c' : Int) / 2) 3988292384 = ((c' / 2 ^^^ 3988292384 : Nat) : Int) := by
              have := bits_xor_u32_nat (c' / 2) 3988292384 (by omega) (by omega)
              rw [Int.natCast_ediv] at this
              exact this
            have hSS := Lib.hid (stepN_odd hjlt hodd hS.out)
            have hlt2 : c' / 2 ^^^ 3988292384 < 4294967296 := Nat.xor_lt_two_pow (n := 32) (by omega) (by omega)
            clear hodd
            go_wp2_with fail
            go_round
            case rel => exact ⟨j + 1, _, by omega, by go_num, rfl, hlt2, hSS⟩
            case measure => simp [intOf]; omega
          · have h1 : (((c' : Int) % 2) == 1) = false := by simp; omega
            have hSS := Lib.hid (stepN_even hjlt hodd hS.out)
            clear hodd
            go_wp2_with fail
            go_round
            case rel => exact ⟨j + 1, c' / 2, by omega, by go_num, by go_num, by omega, hSS⟩
            case measure => simp [intOf]; omega
        · obtain rfl : j = 8 := by omega
          have hc8 : c' = stepN 8 d := hS.out
          have hst2 := hst
          rw [← hc8] at hst2
          clear hc8 hst
          go_wp2_with fail
          go_round
          case rel => exact ⟨k + 1, c', by omega, by go_num, rfl, hc', hst2⟩
          case measure => simp [intOf]; omega
    · obtain rfl : k = s.size := by omega
      have hend : crcGo c ((bl s).drop s.size) = c := by
        rw [List.drop_eq_nil_of_le (by rw [bl_length]; omega)]
        rfl
      have hE := Lib.hid (hend.symm.trans hN.out)
      have hx : bits .xor .u32 (c : Int) 4294967295 = ((c ^^^ 4294967295 : Nat) : Int) := bits_xor_u32_nat c 4294967295 hc (by omega)
      clear hend
      go_wp2_with fail
      go_ret
      exact ⟨by unfold crc; rw [← hE.out]; rfl, rfl⟩
end Go.Proofs.YteeckkkcebljmaaDoor
