/- Walks: awake. -/
import Derived.Test.YteeckkkcebljmaaDoorMWalkM
namespace Go.Proofs.YteeckkkcebljmaaDoor
open Go.RowKit Go.Shelf Go.Sort
set_option maxRecDepth 100000
set_option linter.unusedVariables false
set_option linter.unusedSimpArgs false

def Mw : Man := ⟨[], ⟨#[108, 49]⟩, 2, 0⟩
def Mw2 : Man := ⟨[], ⟨#[108, 50]⟩, 2, 0⟩
theorem may_w : May Mw := ⟨by decide, by decide, by decide, by decide, by decide, by decide, fun _ h => absurd h (List.not_mem_nil), by unfold Mw; simp⟩
theorem may_w2 : mayB Mw2 = false := by
  unfold mayB
  rw [decide_eq_false_iff_not]
  rintro ⟨_, _, _, _, h, _⟩
  revert h
  decide
theorem body_w : body Mw = [108, 111, 100, 101, 115, 116, 97, 114, 32, 49, 10, 110, 101, 120, 116, 32, 50, 10, 115, 101, 113, 32, 48, 10, 108, 111, 103, 32, 108, 49, 10] := by
  have e1 : Lib.itoa (2 : Int) = [50] := by rw [itoa_of 2 (by omega)]; rw [show (2 : Int).toNat = 2 by rfl, Lib.decDigits, dif_pos (by omega)]; rfl
  have e2 : Lib.itoa (0 : Int) = [48] := by rw [itoa_of 0 (by omega)]; rw [show (0 : Int).toNat = 0 by rfl, Lib.decDigits, dif_pos (by omega)]; rfl
  unfold body heads unl Mw
  simp only
  rw [e1, e2]
  rfl
theorem text_len {m : Man} (h : May m) : (text m).length ≤ 30000 := by
  have h1 := body_len h m.segs.length (Nat.le_refl _)
  rw [cut_all] at h1
  have h2 := nDigits_le 16 (crc (body m)) (by omega) (by have := crc_lt (body m); omega)
  have h3 := h.2.2.2.2.2.1
  unfold text sumLine
  simp only [List.length_append, Lib.decDigits_length]
  simp [wSum]
  omega
set_option maxHeartbeats 2000000 in
theorem awake_calls (H : PH) (hG : GL H) (w : World) (hI : In H w) : Calls Tryd.prog 10 #[] w fun e w' => e = .returned (.bool true) ∧ Below w.heap.size w w' := by
  have hE1 := fun W (hW : In H W) => enc_calls H hG W hW Mw none 0 (Sl.nil _ _ _ _) (by decide) (fun s hs => absurd hs (List.not_mem_nil))
  have hE2 := fun W (hW : In H W) => enc_calls H hG W hW Mw2 none 0 (Sl.nil _ _ _ _) (by decide) (fun s hs => absurd hs (List.not_mem_nil))
  have e1 : enc Mw = (text Mw, 0) := by unfold enc; rw [if_pos (by simp [mayB, may_w])]
  have e2 : enc Mw2 = ([], 110) := by unfold enc; rw [may_w2]; rfl
  rw [e1] at hE1
  rw [e2] at hE2
  have htl := text_len may_w
  have hD := fun W (hW : In H W) => dec_calls H hG W hW (toB (text Mw)) (by rw [size_toB]; omega)
  rw [bl_toB, resP_some (decP_text may_w)] at hD
  obtain ⟨t, ht⟩ : ∃ x, x = toB (text Mw) := ⟨_, rfl⟩
  have h35 : 35 ≤ t.size := by
    rw [ht, size_toB]
    unfold text sumLine
    rw [body_w]
    have := dec_ne (crc (body Mw))
    have hp : 0 < (Lib.decDigits (crc (body Mw))).length := List.length_pos_iff.2 this
    rw [body_w] at hp
    simp [wSum]
    try omega
  have h31 : ((t.extract 0 31).toList == (⟨#[108, 111, 100, 101, 115, 116, 97, 114, 32, 49, 10, 110, 101, 120, 116, 32, 50, 10, 115, 101, 113, 32, 48, 10, 108, 111, 103, 32, 108, 49, 10]⟩ : ByteArray).toList) = true := by
    rw [Lib.bytes_beq_iff]
    apply bl_inj
    rw [bl_extract, ht, bl_toB]
    unfold text
    rw [body_w]
    rfl
  have h31' : ((t.extract 0 31).toList == [108, 111, 100, 101, 115, 116, 97, 114, 32, 49, 10, 110, 101, 120, 116, 32, 50, 10, 115, 101, 113, 32, 48, 10, 108, 111, 103, 32, 108, 49, 10]) = true := by
    rw [← h31]
    congr 1
    rw [ByteArray.toList_eq]
  have h35' : decide ((t.size : Int) < 35) = false := by simp; omega
  clear h31
  rw [← ht] at hE1 hD
  have HE1 := Lib.hid hE1
  have HE2 := Lib.hid hE2
  have HD : Hid (∀ W, In H W → Calls Tryd.prog 7 #[.string t] W fun e w' => (∃ A c, e = .returned (.tuple #[.agg #[.slice A 0 c, .string ⟨#[108, 49]⟩, .int .i64 2, .int .i64 0], .int .i64 0]) ∧ Sl RS 1 (hp w') A Mw.segs) ∧ Below W.heap.size W w') := Lib.hid hD
  clear hE1 hE2 hD e1 e2 htl ht
  have HSm : Hid (∀ A c W, In H W → Calls Tryd.prog 9 #[.agg #[.slice A 0 c, .string ⟨#[108, 49]⟩, .int .i64 2, .int .i64 0], .agg #[.slice none 0 0, .string ⟨#[108, 49]⟩, .int .i64 2, .int .i64 0]] W fun e w' => e = .returned (.bool true) ∧ Below W.heap.size W w') := Lib.hid (fun A c W hW => by
    have := same_calls H W hW Mw Mw A none c 0 (Sl.nil _ _ _ _) (Sl.nil _ _ _ _)
    rw [show decide (Mw = Mw) = true by simp] at this
    exact this)
  have tk1 := Lib.hid True.intro
  go_enter Tryd.func10, Tryd.ntmps10
  go_wp2_with (first
    | (clear tk1; go_at_call 5; go_must (refine (HE1.out _ hI).mono ?_; rintro e w1 ⟨rfl, HB1⟩))
    | (go_at_call 7; go_must (refine (HD.out _ (hI.below HB1)).mono ?_; rintro e w2 ⟨⟨A, c, rfl, hs2⟩, hb2⟩; have HB2 := below_step hb2 HB1; clear hs2 hb2))
    | (go_at_call 5; go_must (refine (HE2.out _ (hI.below (below_allocS HB2 _))).mono ?_; rintro e w3 ⟨rfl, hb3⟩; have K3 := (Blk.new w2 [.slice A 0 c, .string ⟨#[108, 49]⟩, .int .i64 2, .int .i64 0] 24).below hb3; have HB3 := below_step hb3 (below_allocS HB2 _); have q0 := K3.cell 0 rfl; have q1 := K3.cell 1 rfl; have q2 := K3.cell 2 rfl; have q3 := K3.cell 3 rfl; clear hb3))
    | (go_at_call 9; go_must (refine (HSm.out A c _ (hI.below HB3)).mono ?_; rintro e w4 ⟨rfl, hb4⟩; have HB4 := below_step hb4 HB3; clear hb4)))
  go_ret
  exact ⟨rfl, HB4⟩
end Go.Proofs.YteeckkkcebljmaaDoor
