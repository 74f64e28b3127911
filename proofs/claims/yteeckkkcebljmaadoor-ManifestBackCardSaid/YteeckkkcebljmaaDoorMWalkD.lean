/- Walks: the program's sum. -/
import Derived.Test.YteeckkkcebljmaaDoorMWalkC
import Derived.Test.YteeckkkcebljmaaDoorLA
import Derived.Lib.ConvBytes
namespace Go.Proofs.YteeckkkcebljmaaDoor
open Go.RowKit Go.Shelf Go.Sort
set_option maxRecDepth 100000
set_option linter.unusedVariables false
def tabCells (i : Nat) : List Value := (List.range 256).map fun j => .int .u32 ((if j < i then stepN 8 j else 0 : Nat) : Int)
theorem zero53 : Tryd.zeroCells53 = (tabCells 0).toArray := by kernel_rfl
theorem tab_set (i : Nat) (h : i < 256) : (tabCells i).set i (.int .u32 ((stepN 8 i : Nat) : Int)) = tabCells (i + 1) := by
  apply List.ext_getElem?
  intro j
  rw [List.getElem?_set]
  simp only [tabCells, List.length_map, List.length_range, List.getElem?_map]
  by_cases hj : j < 256
  · rw [List.getElem?_range hj]
    by_cases hij : i = j
    · subst hij; simp [h]
    · simp only [hij, if_false, Option.map_some]
      by_cases hl : j < i
      · rw [if_pos hl, if_pos (by omega)]
      · rw [if_neg hl, if_neg (by omega)]
  · rw [List.getElem?_eq_none (l := List.range 256) (by simp; omega)]
    rw [if_neg (by omega)]
    rfl
theorem bits_and_one (c : Nat) (hc : c < 4294967296) : bits .and .u32 (c : Int) 1 = ((c % 2 : Nat) : Int) := by
  have h1 : (BitVec.ofInt 32 (c : Int)).toNat = c := by
    rw [BitVec.ofInt_natCast, BitVec.toNat_ofNat]; exact Nat.mod_eq_of_lt (by omega)
  show IntKind.u32.wrap ((BitVec.ofInt 32 (c : Int) &&& BitVec.ofInt 32 1).toNat : Int) = _
  rw [BitVec.toNat_and, h1, show (BitVec.ofInt 32 1).toNat = 1 by decide, Nat.and_one_is_mod]
  simp only [IntKind.wrap, IntKind.bits, IntKind.signed, Bool.false_and]
  rw [if_neg (by decide)]
  have : (2 : Int) ^ 32 = 4294967296 := by decide
  omega
theorem stepV (c : Nat) (hc : c < 4294967296) : bits .xor .u32 ((c : Int) / 2) (3988292384 * bits .and .u32 (c : Int) 1 % 4294967296) = ((step1 c : Nat) : Int) := by
  rw [bits_and_one c hc]
  unfold step1
  by_cases h : c % 2 = 1
  · rw [if_pos h, h]
    have := bits_xor_u32_nat (c / 2) 3988292384 (by omega) (by omega)
    rw [Int.natCast_ediv] at this
    exact this
  · rw [if_neg h, show c % 2 = 0 by omega]
    have := bits_xor_u32_nat (c / 2) 0 (by omega) (by omega)
    rw [Int.natCast_ediv, Nat.xor_zero, Int.natCast_ediv] at this
    exact this
theorem bits_xor_u8_nat (a b : Nat) (ha : a < 256) (hb : b < 256) : bits .xor .u8 (a : Int) (b : Int) = ((a ^^^ b : Nat) : Int) := by
  have hx : a ^^^ b < 2 ^ 8 := Nat.xor_lt_two_pow (by omega) (by omega)
  have h1 : (BitVec.ofInt 8 (a : Int)).toNat = a := by
    rw [BitVec.ofInt_natCast, BitVec.toNat_ofNat]; exact Nat.mod_eq_of_lt (by omega)
  have h2 : (BitVec.ofInt 8 (b : Int)).toNat = b := by
    rw [BitVec.ofInt_natCast, BitVec.toNat_ofNat]; exact Nat.mod_eq_of_lt (by omega)
  show IntKind.u8.wrap ((BitVec.ofInt 8 (a : Int) ^^^ BitVec.ofInt 8 (b : Int)).toNat : Int) = _
  rw [BitVec.toNat_xor, h1, h2]
  simp only [IntKind.wrap, IntKind.bits, IntKind.signed, Bool.false_and]
  rw [if_neg (by decide)]
  have : (2 : Int) ^ 8 = 256 := by decide
  omega
theorem tab_index (c : Nat) (x : UInt8) : bits .xor .u8 ((c : Int) % 256) (x.toNat : Int) = (((c ^^^ x.toNat) % 256 : Nat) : Int) := by
  have h := bits_xor_u8_nat (c % 256) x.toNat (by omega) x.toNat_lt
  rw [Int.natCast_emod] at h
  have e : (c % 256) ^^^ x.toNat = (c ^^^ x.toNat) % 256 := by
    apply Nat.eq_of_testBit_eq
    intro i
    rw [Nat.testBit_xor, show c % 256 = c % 2 ^ 8 by rfl, show (c ^^^ x.toNat) % 256 = (c ^^^ x.toNat) % 2 ^ 8 by rfl, Nat.testBit_mod_two_pow, Nat.testBit_mod_two_pow, Nat.testBit_xor]
    by_cases hi : i < 8
    · simp [hi]
    · have : x.toNat.testBit i = false := Nat.testBit_lt_two_pow (Nat.lt_of_lt_of_le x.toNat_lt (Nat.pow_le_pow_right (n := 2) (by decide) (show 8 ≤ i by omega)))
      simp [hi, this]
  rw [e] at h
  exact h
theorem tab_get (j : Nat) (h : j < 256) : (tabCells 256)[j]? = some (.int .u32 ((stepN 8 j : Nat) : Int)) := by
  simp [tabCells, h]
theorem tab_get0 (j : Nat) (h : j < 256) : (tabCells j)[j]? = some (.int .u32 0) := by
  simp [tabCells, h]
theorem updV (c : Nat) (x : UInt8) (hc : c < 4294967296) : bits .xor .u32 ((stepN 8 ((c ^^^ x.toNat) % 256) : Nat) : Int) ((c : Int) / 256) = ((crcUpd c x : Nat) : Int) := by
  have := bits_xor_u32_nat (stepN 8 ((c ^^^ x.toNat) % 256)) (c / 256) (stepN_lt 8 (by omega)) (by omega)
  rw [Int.natCast_ediv] at this
  rw [crcUpd_tab]
  exact this
theorem stepN_one {j c d : Nat} (hj : j < 8) (h : stepN (8 - j) c = d) : stepN (8 - (j + 1)) (step1 c) = d := by
  rw [← h, show 8 - j = (8 - (j + 1)) + 1 by omega]
  rfl
set_option maxHeartbeats 1000000 in
theorem sum_calls (w : World) (s : ByteArray) (hs : s.size ≤ 140737488355328) :
    Calls Tryd.prog 14 #[.string s] w fun e w' => e = .returned (.int .u32 (crc (bl s))) ∧ Below w.heap.size w w' := by
  go_enter Tryd.func14, Tryd.ntmps14
  go_wp2_with fail
  have HB0 : Below w.heap.size w (w.alloc (.cells Tryd.zeroCells53 53)) := below_allocS (Below.refl _ _) _
  have HK0 : Blk (w.alloc (.cells Tryd.zeroCells53 53)) w.heap.size (tabCells 0) := by rw [zero53]; exact Blk.new _ _ _
  go_loopw [4, 5, 9, 14] (fun _ _ v9 _ W => ∃ i : Nat, i ≤ 256 ∧ v9 = .int .i64 i ∧ Blk W w.heap.size (tabCells i) ∧ Below w.heap.size w W) (fun _ _ v9 _ _ => 256 - (intOf v9).toNat)
  case atStart => exact ⟨0, by omega, rfl, HK0, HB0⟩
  case round =>
    obtain ⟨i, hi, rfl, HK, HB⟩ := hrel
    clear HK0 HB0
    by_cases hlt : i < 256
    · go_wp2_with fail
      go_loop [5, 14] (fun v5 v14 => ∃ (j c : Nat), j ≤ 8 ∧ v14 = .int .i64 j ∧ v5 = .int .u32 c ∧ c < 4294967296 ∧ Hid (stepN (8 - j) c = stepN 8 i)) (fun _ v14 => 8 - (intOf v14).toNat)
      case atStart => exact ⟨0, i, by omega, rfl, rfl, by omega, Lib.hid rfl⟩
      case round =>
        obtain ⟨j, c, hj, rfl, rfl, hc, hS⟩ := hrel
        by_cases hjl : j < 8
        · have hv := stepV c hc
          have hl := step1_lt hc
          have hSS := Lib.hid (stepN_one hjl hS.out)
          go_wp2_with fail
          go_round
          case rel => exact ⟨j + 1, _, by omega, by go_num, rfl, hl, hSS⟩
          case measure => simp [intOf]; omega
        · obtain rfl : j = 8 := by omega
          have hc8 : c = stepN 8 i := hS.out
          have hcell := HK.cell i (tab_get0 i hlt)
          have hfz := HK.frozen i
          have hset := HK.set i (.int .u32 c)
          have hset2 : Hid (Blk (wr.setCell ⟨w.heap.size, i, none⟩ (.int .u32 c)) w.heap.size (tabCells (i + 1))) := Lib.hid (by
            rw [← tab_set i hlt, ← hc8]
            exact hset)
          clear hc8 hset hS
          have HB2 : Below w.heap.size w (wr.setCell ⟨w.heap.size, i, none⟩ (.int .u32 c)) := HB.setCell (by simp) _
          go_wp2_with fail
          go_roundw
          case rel => exact ⟨i + 1, by omega, by go_num, hset2.out, HB2⟩
          case measure => simp [intOf]; omega
    · obtain rfl : i = 256 := by omega
      have hcv := fun wx => Lib.run_convert_string_bytes (P := Tryd.prog) wx 9 38 5 s Tryd.underlying9 Tryd.underlying38 Tryd.underlying5
      go_wp2_with fail
      have HBb := Lib.bytesWorld_below wr 5 s
      have HB2 : Below w.heap.size w (Lib.bytesWorld wr 5 s) := below_step HBb HB
      have HK2 := HK.below HBb
      have hbyte : Hid (∀ j (hj : j < s.size), (Lib.bytesWorld wr 5 s).cell? ⟨wr.heap.size, j, none⟩ = some (.int .u8 (s[j].toNat : Nat))) := Lib.hid (fun j hj => by
        rw [Lib.bytesWorld_cell wr 5 s j hj]
        have := bl_get s j hj
        unfold bl at this
        rw [List.getD_eq_getElem?_getD, this]
        rfl)
      clear HBb HK HB hcv
      generalize Lib.bytesWorld wr 5 s = W2 at *
      go_loop [6, 30] (fun v6 v30 => ∃ (k c : Nat), k ≤ s.size ∧ v30 = .int .i64 k ∧ v6 = .int .u32 c ∧ c < 4294967296 ∧ Hid (crcGo c ((bl s).drop k) = crcGo 4294967295 (bl s))) (fun _ v30 => s.size - (intOf v30).toNat)
      case atStart => exact ⟨0, 4294967295, by omega, rfl, rfl, by omega, Lib.hid rfl⟩
      case round =>
        obtain ⟨k, c, hk, rfl, rfl, hc, hN⟩ := hrel
        by_cases hlt : k < s.size
        · have hx := tab_index c s[k]
          have hm : (c ^^^ s[k].toNat) % 256 < 256 := Nat.mod_lt _ (by decide)
          have hu := updV c s[k] hc
          have hul := crcUpd_lt (c := c) hc s[k]
          have hst : Hid (crcGo (crcUpd c s[k]) ((bl s).drop (k + 1)) = crcGo 4294967295 (bl s)) := Lib.hid ((crcGo_step s k hlt c).trans hN.out)
          have hcb := hbyte.out k hlt
          have hbt := s[k].toNat_lt
          generalize crcUpd c s[k] = d at *
          generalize (c ^^^ s[k].toNat) % 256 = m at *
          have hct := HK2.cell m (tab_get m hm)
          clear hN
          go_wp2_with fail
          go_round
          case rel => exact ⟨k + 1, d, by omega, by go_num, rfl, hul, hst⟩
          case measure => simp [intOf]; omega
        · obtain rfl : k = s.size := by omega
          have hend : crcGo c ((bl s).drop s.size) = c := by
            rw [List.drop_eq_nil_of_le (by rw [bl_length]; omega)]
            rfl
          have hE := Lib.hid (hend.symm.trans hN.out)
          clear hend
          have hu : bits .xor .u32 IntKind.u32.max (c : Int) = ((c ^^^ 4294967295 : Nat) : Int) := by
            rw [show IntKind.u32.max = ((4294967295 : Nat) : Int) by decide, bits_xor_u32_nat 4294967295 c (by omega) hc, Nat.xor_comm]
          go_wp2_with fail
          go_ret
          refine ⟨?_, HB2⟩
          unfold crc
          rw [← hE.out]
          rfl
end Go.Proofs.YteeckkkcebljmaaDoor
