/- Walks: the document's digits. -/
import Derived.Test.YteeckkkcebljmaaDoorMWalkD
namespace Go.Proofs.YteeckkkcebljmaaDoor
open Go.RowKit Go.Shelf Go.Sort
set_option maxRecDepth 100000
set_option linter.unusedVariables false
set_option linter.unusedSimpArgs false

def digAcc (u : Nat) (l : Str) : Str := if u = 0 then l else Lib.decDigits u ++ l
theorem digAcc_step {u : Nat} (h : 0 < u) (l : Str) : digAcc (u / 10) (UInt8.ofNat (48 + u % 10) :: l) = digAcc u l := by
  unfold digAcc
  rw [if_neg (show ¬ u = 0 by omega)]
  by_cases h1 : u < 10
  · rw [if_pos (by omega), Lib.decDigits, dif_pos h1, Nat.mod_eq_of_lt h1]
    rfl
  · rw [if_neg (by omega), Lib.decDigits.eq_1 u, dif_neg h1]
    simp
theorem digAcc_start (u : Nat) : digAcc (u / 10) [UInt8.ofNat (48 + u % 10)] = Lib.decDigits u := by
  unfold digAcc
  by_cases h1 : u < 10
  · rw [if_pos (by omega), Lib.decDigits, dif_pos h1, Nat.mod_eq_of_lt h1]
  · rw [if_neg (by omega), Lib.decDigits.eq_1 u, dif_neg h1]
theorem conv_one {W : World} {b : Nat} {n : Int} (h : W.cell? ⟨b, 0, none⟩ = some (.int .u8 n)) : (convert 38 9 (.slice (some ⟨b, 0, none⟩) 1 1)).run Tryd.prog W = .ok (.string ⟨#[UInt8.ofNat n.toNat]⟩) W := by
  rw [run_convert_bytes_string W _ _ 5 _ 1 1 Tryd.underlying38 Tryd.underlying5 Tryd.underlying9]
  have := run_bytesToString (P := Tryd.prog) W ⟨b, 0, none⟩ 1 1 [n] (by
    have := run_loadCells_list (P := Tryd.prog) (w := W) ⟨b, 0, none⟩ [.int .u8 n] (fun j v hj => by
      cases j with
      | zero => simp at hj; subst hj; exact h
      | succ j => simp at hj)
    exact this)
  rw [this]
  rfl
theorem toB_cons (c : UInt8) (l : Str) : (⟨#[c]⟩ : ByteArray) ++ toB l = toB (c :: l) := by
  apply bl_inj
  unfold bl toB
  simp
theorem toB_app (a b : Str) : toB a ++ toB b = toB (a ++ b) := by
  apply bl_inj
  unfold bl toB
  simp
theorem toB_nil_app (a : Str) : (⟨#[]⟩ : ByteArray) ++ toB a = toB a := toB_app [] a
theorem u8_digit (u : Nat) : UInt8.ofNat ((48 : Int) + (u : Int) % 10).toNat = UInt8.ofNat (48 + u % 10) := by
  rw [show ((48 : Int) + (u : Int) % 10).toNat = 48 + u % 10 by omega]
set_option maxHeartbeats 1000000 in
theorem rdigits_calls (w : World) (n : Nat) (hn : n ≤ 4503599627370496) :
    Calls Tryd.prog 15 #[.int .i64 (n : Int)] w fun e w' => e = .returned (.string (toB (Lib.decDigits n))) ∧ Below w.heap.size w w' := by
  obtain ⟨d, hdd⟩ : ∃ d, d = UInt8.ofNat (48 + n % 10) := ⟨_, rfl⟩
  have hs := digAcc_start n
  have hcv := conv_one (W := w.alloc (.cells #[.int .u8 (48 + (n : Int) % 10)] 5)) (b := w.heap.size) (n := 48 + (n : Int) % 10) (cellN 0 rfl)
  rw [u8_digit n, ← hdd] at hcv
  rw [← hdd] at hs
  have HS := Lib.hid hs
  clear hdd hs
  have hng : decide ((n : Int) < 0) = false := by simp
  go_enter Tryd.func15, Tryd.ntmps15
  go_wp2_with fail
  clear hcv
  have HB0 : Below w.heap.size w (w.alloc (.cells #[.int .u8 (48 + (n : Int) % 10)] 5)) := below_allocS (Below.refl _ _) _
  go_loopw [3, 5] (fun v3 v5 W => ∃ (u : Nat) (l : Str), u ≤ 4503599627370496 ∧ v3 = .int .u64 u ∧ v5 = .string (toB l) ∧ Hid (digAcc u l = Lib.decDigits n) ∧ Below w.heap.size w W) (fun v3 _ _ => (intOf v3).toNat)
  case atStart => exact ⟨n / 10, [d], by omega, by go_num, rfl, HS, HB0⟩
  case round =>
    obtain ⟨u, l, hu, rfl, rfl, hD, HB⟩ := hrel
    clear HB0
    have hll : (toB l).size ≤ 16 := by
      have h1 := congrArg List.length hD.out
      rw [Lib.decDigits_length] at h1
      have h2 := nDigits_le 16 n (by omega) (by omega)
      have h3 : (toB l).size = l.length := by rw [← bl_length, bl_toB]
      unfold digAcc at h1
      split at h1
      · omega
      · simp at h1; omega
    by_cases hlt : 0 < u
    · obtain ⟨d2, hdd⟩ : ∃ d, d = UInt8.ofNat (48 + u % 10) := ⟨_, rfl⟩
      have hSS := (digAcc_step hlt l).trans hD.out
      have hcv := conv_one (W := wr.alloc (.cells #[.int .u8 (48 + (u : Int) % 10)] 5)) (b := wr.heap.size) (n := 48 + (u : Int) % 10) (cellN 0 rfl)
      rw [u8_digit u, ← hdd] at hcv
      rw [← hdd] at hSS
      have HSS := Lib.hid hSS
      clear hdd hSS
      go_wp2_with fail
      go_roundw
      case rel => exact ⟨u / 10, d2 :: l, by omega, by go_num, by rw [← toB_cons], HSS, below_allocS HB _⟩
      case measure => simp [intOf]; omega
    · obtain rfl : u = 0 := by omega
      have hE := hD.out
      unfold digAcc at hE
      rw [if_pos rfl] at hE
      have HE := Lib.hid hE
      clear hE
      go_wp2_with fail
      go_ret
      refine ⟨?_, HB⟩
      rw [← HE.out, ← toB_nil_app]
      rfl
end Go.Proofs.YteeckkkcebljmaaDoor
