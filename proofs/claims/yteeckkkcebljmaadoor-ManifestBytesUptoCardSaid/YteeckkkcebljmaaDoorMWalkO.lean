/- Walks: the statement's function ManifestBytes. -/
import Derived.Test.YteeckkkcebljmaaDoorMWalkN
namespace Go.Proofs.YteeckkkcebljmaaDoor
open Go.RowKit Go.Shelf Go.Sort
set_option maxRecDepth 100000
set_option linter.unusedVariables false
set_option linter.unusedSimpArgs false

theorem Sl.up {W W' : World} {A : Option Addr} {xs : List ByteArray} (h : Sl RS 1 (hp W) A xs) (hB : Below W.heap.size W W') : Sl RS 1 (hp W') A xs := h.mono ((In.hp W).below hB) (fun _ _ _ h => h)
set_option maxHeartbeats 2000000 in
theorem law_bytes (H : PH) (hG : GL H) (w : World) (hI : In H w) (m : Man) (A : Option Addr) (c : Nat) (hA : Sl RS 1 H A m.segs) (hl : m.log.size ≤ 140737488355328) (hsz : ∀ s ∈ m.segs, s.size ≤ 140737488355328) (s : ByteArray) (hs : s.size ≤ 3000000) :
    Calls Tryd.prog 3 #[.agg #[.slice A m.segs.length c, .string m.log, .int .i64 m.next, .int .i64 m.seq], .string s] w fun e w' => e = .returned (.bool true) ∧ Below w.heap.size w w' := by
  have hE := fun W (hW : In H W) => enc_calls H hG W hW m A c hA hl hsz
  have hR := fun W (hW : In H W) => renc_calls H W hW m A c hA hl hsz
  obtain ⟨t, ht⟩ : ∃ x, x = toB (enc m).1 := ⟨_, rfl⟩
  obtain ⟨ec, hec⟩ : ∃ x, x = (enc m).2 := ⟨_, rfl⟩
  rw [← ht, ← hec] at hE hR
  have HE := Lib.hid hE
  have HR := Lib.hid hR
  have hD := fun W (hW : In H W) => dec_calls H hG W hW s hs
  have hQ := fun W (hW : In H W) => rdec_calls H W hW s hs
  obtain ⟨⟨M, code⟩, hM⟩ : ∃ x, x = resP (bl s) := ⟨_, rfl⟩
  rw [← hM] at hD hQ
  have HD : Hid (∀ W, In H W → Calls Tryd.prog 7 #[.string s] W fun e w' => (∃ A c, e = .returned (.tuple #[.agg #[.slice A M.segs.length c, .string M.log, .int .i64 M.next, .int .i64 M.seq], .int .i64 code]) ∧ Sl RS 1 (hp w') A M.segs) ∧ Below W.heap.size W w') := Lib.hid hD
  have HQ : Hid (∀ W, In H W → Calls Tryd.prog 8 #[.string s] W fun e w' => (∃ A c, e = .returned (.tuple #[.agg #[.slice A M.segs.length c, .string M.log, .int .i64 M.next, .int .i64 M.seq], .int .i64 code]) ∧ Sl RS 1 (hp w') A M.segs) ∧ Below W.heap.size W w') := Lib.hid hQ
  have HSm : Hid (∀ W V A B c d, Below W.heap.size W V → Sl RS 1 (hp W) A M.segs → Sl RS 1 (hp W) B M.segs → Calls Tryd.prog 9 #[.agg #[.slice A M.segs.length c, .string M.log, .int .i64 M.next, .int .i64 M.seq], .agg #[.slice B M.segs.length d, .string M.log, .int .i64 M.next, .int .i64 M.seq]] V fun e w' => e = .returned (.bool true) ∧ Below V.heap.size V w') := Lib.hid (fun W V A B c d hb h1 h2 => by
    have := same_calls (hp W) V ((In.hp W).below hb) M M A B c d h1 h2
    rw [show decide (M = M) = true by simp] at this
    exact this)
  clear hE hR hD hQ ht hec hM
  have HB0 : Below w.heap.size w (w.alloc (.cells #[.slice A m.segs.length c, .string m.log, .int .i64 m.next, .int .i64 m.seq] 24)) := below_allocS (Below.refl _ _) _
  have K0 := Blk.new w [.slice A m.segs.length c, .string m.log, .int .i64 m.next, .int .i64 m.seq] 24
  go_enter Tryd.func3, Tryd.ntmps3
  go_wp2_with (first
    | (go_at_call 5; go_must (refine (HE.out _ (hI.below HB0)).mono ?_; rintro e w1 ⟨rfl, hb⟩; have HB1 := below_step hb HB0; have K1 := K0.below hb; have q0 := K1.cell 0 rfl; have q1 := K1.cell 1 rfl; have q2 := K1.cell 2 rfl; have q3 := K1.cell 3 rfl; clear hb))
    | (go_at_call 6; go_must (refine (HR.out _ (hI.below HB1)).mono ?_; rintro e w2 ⟨rfl, hb⟩; have HB2 := below_step hb HB1; clear hb q0 q1 q2 q3))
    | (go_at_call 7; go_must (refine (HD.out _ (hI.below HB2)).mono ?_; rintro e w3 ⟨⟨A3, c3, rfl, hs3⟩, hb⟩; have HB3 := below_step hb HB2; have HS3 := Lib.hid hs3; clear hs3 hb))
    | (go_at_call 8; go_must (refine (HQ.out _ (hI.below (below_allocS HB3 _))).mono ?_; rintro e w4 ⟨⟨A4, c4, rfl, hs4⟩, hb⟩; have HB4 := below_step hb (below_allocS HB3 _); have HS4 := Lib.hid hs4; have HS3' := Lib.hid (HS3.out.up (below_step hb (below_allocS (Below.refl _ _) _))); have K4 := (Blk.new w3 [.slice A3 M.segs.length c3, .string M.log, .int .i64 M.next, .int .i64 M.seq] 24).below hb; have q0 := K4.cell 0 rfl; have q1 := K4.cell 1 rfl; have q2 := K4.cell 2 rfl; have q3 := K4.cell 3 rfl; have hz4 := K4.lt; clear hs4 hb))
    | (go_at_call 9; go_must (refine (HSm.out w4 _ _ _ _ _ (below_allocS (Below.refl _ _) _) HS3'.out HS4.out).mono ?_; rintro e w5 ⟨rfl, hb⟩; have HB5 := below_step hb (below_allocS HB4 _); clear hb))
    | (go_at_call 10; go_must (refine (awake_calls H hG _ (hI.below HB5)).mono ?_; rintro e w6 ⟨rfl, hb⟩; have HB6 := below_step hb HB5; clear hb)))
  go_ret
  exact ⟨rfl, HB6⟩
end Go.Proofs.YteeckkkcebljmaaDoor
