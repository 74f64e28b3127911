/- Walks: manifest.Encode and the document's. -/
import Derived.Test.YteeckkkcebljmaaDoorMWalkH
import Derived.Sort.AtCall
import Derived.Deep.RegionHeld3
namespace Go.Proofs.YteeckkkcebljmaaDoor
open Go.RowKit Go.Shelf Go.Sort
set_option maxRecDepth 100000
set_option linter.unusedVariables false
set_option linter.unusedSimpArgs false

theorem bl_app (a b : ByteArray) : bl (a ++ b) = bl a ++ bl b := by
  unfold bl
  simp
theorem bl_mk (l : List UInt8) : bl ⟨l.toArray⟩ = l := bl_toB l
def cut (m : Man) (k : Nat) : Man := ⟨m.segs.take k, m.log, m.next, m.seq⟩
theorem cut_all (m : Man) : cut m m.segs.length = m := by
  obtain ⟨a, b, c, d⟩ := m
  simp [cut]
theorem body_zero (m : Man) : body (cut m 0) = [108, 111, 100, 101, 115, 116, 97, 114, 32, 49, 10, 110, 101, 120, 116, 32] ++ Lib.itoa m.next ++ [10, 115, 101, 113, 32] ++ Lib.itoa m.seq ++ [10, 108, 111, 103, 32] ++ bl m.log ++ [10] := by
  simp [body, cut, heads, unl, wLode, wNext, wSeq, wLog]
theorem body_succ (m : Man) (k : Nat) (hk : k < m.segs.length) : body (cut m (k + 1)) = body (cut m k) ++ ([115, 101, 103, 109, 101, 110, 116, 32] ++ bl m.segs[k] ++ [10]) := by
  unfold body heads cut
  simp only [List.take_succ_eq_append_getElem hk, List.map_append]
  simp [unl, wSegm]
theorem file_len {s : Str} {next : Int} (h : fileR s next = true) : s.length ≤ 17 := by
  obtain ⟨c, u, _, rfl, _, _, hu⟩ := file_form h
  have := nDigits_le 16 u (by omega) (by omega)
  rw [List.length_cons, Lib.decDigits_length]
  omega
theorem itoa_len {n : Int} (h0 : 0 ≤ n) (h1 : n ≤ 4503599627370496) : (Lib.itoa n).length ≤ 16 := by
  rw [itoa_of n h0, Lib.decDigits_length]
  exact nDigits_le 16 _ (by omega) (by omega)
theorem body_len {m : Man} (h : May m) : ∀ k, k ≤ m.segs.length → (body (cut m k)).length ≤ 100 + 26 * k
  | 0, _ => by
    obtain ⟨h1, h2, h3, h4, h5, _⟩ := h
    have a := itoa_len (show 0 ≤ m.next by omega) h2
    have b := itoa_len h3 h4
    have c := file_len h5
    rw [body_zero]
    simp
    omega
  | k + 1, hk => by
    have ih := body_len h k (by omega)
    have c := file_len (h.2.2.2.2.2.2.1 _ (List.getElem_mem (show k < m.segs.length by omega)))
    rw [body_succ m k (by omega)]
    simp
    omega
theorem size_toB (l : Str) : (toB l).size = l.length := by rw [← bl_length, bl_toB]
theorem size_app (a b : ByteArray) : (a ++ b).size = a.size + b.size := by
  rw [← bl_length, bl_app, List.length_append, bl_length, bl_length]
set_option maxHeartbeats 1000000 in
theorem enc_calls (H : PH) (hG : GL H) (w : World) (hI : In H w) (m : Man) (A : Option Addr) (c : Nat) (hA : Sl RS 1 H A m.segs) (hl : m.log.size ≤ 140737488355328) (hsz : ∀ s ∈ m.segs, s.size ≤ 140737488355328) :
    Calls Tryd.prog 5 #[.agg #[.slice A m.segs.length c, .string m.log, .int .i64 m.next, .int .i64 m.seq]] w fun e w' => e = .returned (.tuple #[.string (toB (enc m).1), .int .i64 (enc m).2]) ∧ Below w.heap.size w w' := by
  have hM := Lib.hid (fun W hW => may_calls H hG W hW m A c hA hl hsz)
  have hm := hA.le
  have K0 := Blk.new w [.slice A m.segs.length c, .string m.log, .int .i64 m.next, .int .i64 m.seq] 24
  have HB0 : Below w.heap.size w (w.alloc (.cells #[.slice A m.segs.length c, .string m.log, .int .i64 m.next, .int .i64 m.seq] 24)) := below_allocS (Below.refl _ _) _
  by_cases hmay : May m
  · have hmb : mayB m = true := by simp [mayB, hmay]
    rw [hmb] at hM
    have he : Hid (enc m = (text m, 0)) := Lib.hid (by unfold enc; rw [if_pos hmb])
    have hlen := Lib.hid (body_len hmay)
    have HM := Lib.hid hmay
    obtain ⟨g1, g2, g3, g4, g5, g6, _⟩ := hmay
    have n1 := itoa_len (show 0 ≤ m.next by omega) g2
    have n2 := itoa_len g3 g4
    have n3 := file_len g5
    rw [← size_toB] at n1 n2
    rw [bl_length] at n3
    have i1 := Lib.hid (fun W (hW : In H W) => itoa_calls H hG W hW m.next (by omega) (by omega))
    have i2 := Lib.hid (fun W (hW : In H W) => itoa_calls H hG W hW m.seq (by omega) (by omega))
    obtain ⟨s1, hs1⟩ : ∃ x, x = toB (Lib.itoa m.next) := ⟨_, rfl⟩
    obtain ⟨s2, hs2⟩ : ∃ x, x = toB (Lib.itoa m.seq) := ⟨_, rfl⟩
    rw [← hs1] at i1 n1
    rw [← hs2] at i2 n2
    have hs1' := Lib.hid hs1
    have hs2' := Lib.hid hs2
    clear hmb g5 hs1 hs2
    have z1 : ¬ (9223372036854775807 < 16 + s1.size) := by omega
    have z2 : ¬ (9223372036854775807 < 16 + s1.size + 5) := by omega
    have z3 : ¬ (9223372036854775807 < 16 + s1.size + 5 + s2.size) := by omega
    have z4 : ¬ (9223372036854775807 < 16 + s1.size + 5 + s2.size + 5) := by omega
    have z5 : ¬ (9223372036854775807 < 16 + s1.size + 5 + s2.size + 5 + m.log.size) := by omega
    have z6 : ¬ (9223372036854775807 < 16 + s1.size + 5 + s2.size + 5 + m.log.size + 1) := by omega
    go_enter Tryd.func5, Tryd.ntmps5
    go_wp2_with (go_at_call 12; go_must (refine (hM.out _ (hI.below HB0)).mono ?_; rintro e w1 ⟨rfl, hb1⟩; have HB1 : Below w.heap.size w w1 := below_step hb1 HB0; have K1 := K0.below hb1; clear hb1))
    have q0 := K1.cell 0 rfl
    have q1 := K1.cell 1 rfl
    have q2 := K1.cell 2 rfl
    have q3 := K1.cell 3 rfl
    go_region_held3 (fun w' => w'.cell? ⟨w.heap.size, 1, none⟩ = some (.string m.log) ∧ w'.cell? ⟨w.heap.size, 2, none⟩ = some (.int .i64 m.next) ∧ w'.cell? ⟨w.heap.size, 3, none⟩ = some (.int .i64 m.seq)) (first | exact ⟨K3.cell 1 rfl, K3.cell 2 rfl, K3.cell 3 rfl⟩ | exact ⟨K2.cell 1 rfl, K2.cell 2 rfl, K2.cell 3 rfl⟩ | go_keep)
      (first
        | (go_at_call_has 13 (Value.int .i64 m.next); go_must (refine (i1.out _ (hI.below (by repeat (first | exact HB1 | refine Below.drew ?_)))).mono ?_; rintro e w2 ⟨rfl, hb2⟩; have hb2' := below_step (w := w1) hb2 (by repeat (first | exact Below.refl _ _ | refine Below.drew ?_)); have HB2 := below_step hb2' HB1; have K2 := K1.below hb2'; clear hb2 hb2'))
        | (go_at_call_has 13 (Value.int .i64 m.seq); go_must (refine (i2.out _ (hI.below HB2)).mono ?_; rintro e w3 ⟨rfl, hb3⟩; have HB3 := below_step hb3 HB2; have K3 := K2.below hb3; have q30 := K3.cell 0 rfl; clear hb3)))
    go_wp2_with fail
    have hst : Hid (bl ((⟨#[108, 111, 100, 101, 115, 116, 97, 114, 32, 49, 10, 110, 101, 120, 116, 32]⟩ : ByteArray) ++ s1 ++ ⟨#[10, 115, 101, 113, 32]⟩ ++ s2 ++ ⟨#[10, 108, 111, 103, 32]⟩ ++ m.log ++ ⟨#[10]⟩) = body (cut m 0)) := Lib.hid (by
      rw [body_zero, hs1'.out, hs2'.out]
      simp only [bl_app, bl_toB]
      rfl)
    clear z1 z2 z3 z4 z5 z6 q0 q1 q2 q3 q30 n1 n2 hs1' hs2' i1 i2 HB1 HB2 K1 K2
    go_loop [4, 6, 27] (fun v4 _ v27 => ∃ (k : Nat) (t : ByteArray), k ≤ m.segs.length ∧ v27 = .int .i64 k ∧ v4 = .string t ∧ Hid (bl t = body (cut m k))) (fun _ _ v27 => m.segs.length - (intOf v27).toNat)
    case atStart => exact ⟨0, _, by omega, rfl, rfl, hst⟩
    case round =>
      obtain ⟨k, t, hk, rfl, rfl, ht⟩ := hrel
      clear hst
      have htl : t.size ≤ 30000 := by
        have := hlen.out k hk
        rw [← ht.out, bl_length] at this
        omega
      by_cases hlt : k < m.segs.length
      · obtain ⟨b, off, rfl, hcell⟩ := hA.get1 hlt
        have hc0 := (hI.below HB3).cell hcell
        have hsk : m.segs[k].size ≤ 17 := by
          have := file_len (HM.out.2.2.2.2.2.2.1 _ (List.getElem_mem hlt))
          rwa [bl_length] at this
        have ht2 : Hid (bl (t ++ ((⟨#[115, 101, 103, 109, 101, 110, 116, 32]⟩ : ByteArray) ++ m.segs[k] ++ ⟨#[10]⟩)) = body (cut m (k + 1))) := Lib.hid (by
          rw [body_succ m k hlt, ← ht.out]
          simp only [bl_app]
          rfl)
        go_wp2_with fail
        go_round
        case rel => exact ⟨k + 1, _, by omega, by go_num, rfl, ht2⟩
        case measure => simp [intOf]; omega
      · obtain rfl : k = m.segs.length := by omega
        have hbt : bl t = body m := by rw [ht.out, cut_all]
        obtain ⟨cc, hcc⟩ : ∃ x, x = crc (bl t) := ⟨_, rfl⟩
        have hcl : cc < 4294967296 := by rw [hcc]; exact crc_lt _
        have hS := Lib.hid (fun W => sum_calls W t (by omega))
        rw [← hcc] at hS
        have hD := Lib.hid (fun W (hW : In H W) => itoa_calls H hG W hW (cc : Int) (by omega) (by omega))
        rw [itoa_nat] at hD
        have hdl : (toB (Lib.decDigits cc)).size ≤ 16 := by rw [size_toB, Lib.decDigits_length]; exact nDigits_le 16 _ (by omega) (by omega)
        have hfin : Hid (toB (text m) = t ++ (⟨#[115, 117, 109, 32]⟩ : ByteArray) ++ toB (Lib.decDigits cc) ++ ⟨#[10]⟩) := Lib.hid (by
          apply bl_inj
          rw [bl_toB]
          simp only [bl_app, bl_toB]
          unfold text sumLine
          rw [← hbt, ← hcc]
          simp [bl, wSum])
        obtain ⟨d, hd⟩ : ∃ x, x = toB (Lib.decDigits cc) := ⟨_, rfl⟩
        rw [← hd] at hD hdl hfin
        clear hd hbt hcc
        go_wp2_with (first
          | (go_at_call 14; go_must (refine (hS.out _).mono ?_; rintro e w4 ⟨rfl, hb4⟩; have HB4 := below_step hb4 HB3; clear hb4))
          | (go_at_call 13; go_must (refine (hD.out _ (hI.below HB4)).mono ?_; rintro e w5 ⟨rfl, hb5⟩; have HB5 := Lib.hid (below_step hb5 HB4); clear hb5)))
        go_ret2
        exact ⟨by rw [he.out, hfin.out]; rfl, HB5.out⟩
  · have hmb : mayB m = false := by simp [mayB, hmay]
    rw [hmb] at hM
    have he : Hid (enc m = ([], 110)) := Lib.hid (by unfold enc; rw [if_neg (by rw [hmb]; simp)])
    clear hmay hmb
    go_enter Tryd.func5, Tryd.ntmps5
    go_wp2_with (go_at_call 12; go_must (refine (hM.out _ (hI.below HB0)).mono ?_; rintro e w1 ⟨rfl, hb1⟩; have HB1 := Lib.hid (below_step hb1 HB0); clear hb1))
    go_ret2
    exact ⟨by rw [he.out]; rfl, HB1.out⟩
end Go.Proofs.YteeckkkcebljmaaDoor
