/- Walks: the statement's function ManifestBack. -/
import Derived.Test.YteeckkkcebljmaaDoorMWalkO
import Derived.Outline
namespace Go.Proofs.YteeckkkcebljmaaDoor
open Go.RowKit Go.Shelf Go.Sort
set_option maxRecDepth 100000
set_option linter.unusedVariables false
set_option linter.unusedSimpArgs false

theorem fold_push : ∀ (l : Str) (r : ByteArray), (l.map fun x => ((x.toNat : Nat) : Int)).foldl (fun r n => r.push (UInt8.ofNat n.toNat)) r = toB (bl r ++ l)
  | [], r => by simp [toB_bl]
  | x :: l, r => by
    rw [List.map_cons, List.foldl_cons, fold_push l]
    congr 1
    unfold bl
    simp
theorem conv_bytes {W : World} {b c : Nat} {l : Str} (h : ∀ j (hj : j < l.length), W.cell? ⟨b, j, none⟩ = some (.int .u8 (l[j].toNat : Nat))) : (convert 38 9 (.slice (some ⟨b, 0, none⟩) l.length c)).run Tryd.prog W = .ok (.string (toB l)) W := by
  rw [run_convert_bytes_string W _ _ 5 _ l.length c Tryd.underlying38 Tryd.underlying5 Tryd.underlying9]
  have := run_bytesToString (P := Tryd.prog) W ⟨b, 0, none⟩ l.length c (l.map fun x => ((x.toNat : Nat) : Int)) (by
    have := run_loadCells_list (P := Tryd.prog) (w := W) ⟨b, 0, none⟩ ((l.map fun x => ((x.toNat : Nat) : Int)).map (Value.int .u8)) (fun j v hj => by
      rw [add_addr, Nat.zero_add]
      rw [List.getElem?_map, List.getElem?_map] at hj
      have hlt : j < l.length := by
        rcases Nat.lt_or_ge j l.length with h | h
        · exact h
        · rw [List.getElem?_eq_none h] at hj; cases hj
      rw [List.getElem?_eq_getElem hlt] at hj
      cases hj
      exact h j hlt)
    simpa using this)
  rw [this, fold_push]
  rfl
theorem bytes_frozen (W : World) (t : ByteArray) (j : Nat) (hj : j < t.size) : (Lib.bytesWorld W 5 t).frozen? ⟨W.heap.size, j, none⟩ = false := by
  have h := Lib.bytesWorld_at_new W 5 t
  have hs : t.size ≤ (Lib.bytesCells W 5 t).size := by
    unfold Lib.bytesCells
    rw [Array.size_append, Array.size_map]
    exact Nat.le_add_right _ _
  unfold World.frozen?
  rw [h]
  simp
  omega
theorem set_cells {W : World} {b i : Nat} {l : Str} (y : UInt8) (h : ∀ j (hj : j < l.length), W.cell? ⟨b, j, none⟩ = some (.int .u8 (l[j].toNat : Nat))) (hi : i < l.length) :
    ∀ j (hj : j < (l.set i y).length), (W.setCell ⟨b, i, none⟩ (.int .u8 (y.toNat : Nat))).cell? ⟨b, j, none⟩ = some (.int .u8 ((l.set i y)[j].toNat : Nat)) := by
  intro j hj
  rw [List.length_set] at hj
  by_cases hij : i = j
  · subst hij
    have := h i hi
    rw [List.getElem_set_self]
    exact World.cell?_setCell_same W _ _ this
  · rw [List.getElem_set_ne hij]
    exact (World.cell?_setCell_other W _ _ _ (by intro e; injection e with _ e; exact hij e)).trans (h j hj)
theorem idx_ok (a : Int) (n : Nat) (h0 : 0 < n) (hn : n ≤ 30000) : ∃ k : Nat, k < n ∧ (wrap64 (a.tmod n + n)).tmod n = (k : Int) := by
  have h1 := Int.tmod_lt_of_pos a (b := (n : Int)) (by omega)
  have h2 := Int.lt_tmod_of_pos a (b := (n : Int)) (by omega)
  have e : wrap64 (a.tmod n + n) = a.tmod n + n := by unfold wrap64; omega
  rw [e]
  generalize a.tmod n = r at *
  have h3 : (r + n).tmod n = (r + n) % n := Int.tmod_eq_emod_of_nonneg (by omega)
  rw [h3]
  have h4 := Int.emod_nonneg (r + n) (b := (n : Int)) (by omega)
  have h5 := Int.emod_lt_of_pos (r + n) (b := (n : Int)) (by omega)
  exact ⟨((r + n) % n).toNat, by omega, by omega⟩
def zeroM : List Value := [.slice none 0 0, .string ⟨#[]⟩, .int .i64 0, .int .i64 0]
set_option maxHeartbeats 4000000 in
theorem law_back (H : PH) (hG : GL H) (w : World) (hI : In H w) (m : Man) (A : Option Addr) (c : Nat) (hA : Sl RS 1 H A m.segs) (hl : m.log.size ≤ 140737488355328) (hsz : ∀ s ∈ m.segs, s.size ≤ 140737488355328) (at_ change : Int) (h0 : 0 ≤ change) (h255 : change ≤ 255) (ha0 : -9223372036854775808 ≤ at_) (ha1 : at_ ≤ 9223372036854775807) :
    Calls Tryd.prog 4 #[.agg #[.slice A m.segs.length c, .string m.log, .int .i64 m.next, .int .i64 m.seq], .int .i64 at_, .int .u8 change] w fun e w' => e = .returned (.bool true) ∧ Below w.heap.size w w' := by
  have hE := fun W (hW : In H W) => enc_calls H hG W hW m A c hA hl hsz
  have HB0 : Below w.heap.size w (w.alloc (.cells #[.slice A m.segs.length c, .string m.log, .int .i64 m.next, .int .i64 m.seq] 24)) := below_allocS (Below.refl _ _) _
  have K0 := Blk.new w [.slice A m.segs.length c, .string m.log, .int .i64 m.next, .int .i64 m.seq] 24
  by_cases hmay : May m
  · have henc : enc m = (text m, 0) := by unfold enc; rw [if_pos (by simp [mayB, hmay])]
    rw [henc] at hE
    have htl := text_len hmay
    have HMAY := Lib.hid hmay
    obtain ⟨t, ht⟩ : ∃ x, x = toB (text m) := ⟨_, rfl⟩
    have htb : bl t = text m := by rw [ht, bl_toB]
    have hts : t.size = (text m).length := by rw [ht, size_toB]
    have ht0 : 0 < t.size := by
      obtain ⟨l, hl2, _⟩ := last_text m
      rw [hts, hl2]
      simp
    have hD1 : ∀ W, In H W → Calls Tryd.prog 7 #[.string t] W fun e w' => (∃ A c, e = .returned (.tuple #[.agg #[.slice A m.segs.length c, .string m.log, .int .i64 m.next, .int .i64 m.seq], .int .i64 0]) ∧ Sl RS 1 (hp w') A m.segs) ∧ Below W.heap.size W w' := fun W hW => by
      have := dec_calls H hG W hW t (by omega)
      rw [htb, resP_some (decP_text hmay)] at this
      exact this
    have hD2 : ∀ W, In H W → Calls Tryd.prog 7 #[.string (t ++ ⟨#[10]⟩)] W fun e w' => (∃ A c, e = .returned (.tuple #[.agg #[.slice A 0 c, .string ⟨#[]⟩, .int .i64 0, .int .i64 0], .int .i64 110])) ∧ Below W.heap.size W w' := fun W hW => by
      have := dec_calls H hG W hW (t ++ ⟨#[10]⟩) (by rw [size_app]; show t.size + 1 ≤ _; omega)
      have e : resP (bl (t ++ ⟨#[10]⟩)) = (Man.zero, 110) := resP_none (by rw [bl_app, htb]; exact dec_more m)
      rw [e] at this
      exact this.mono fun e w' ⟨⟨A, c, h, _⟩, hb⟩ => ⟨⟨A, c, h⟩, hb⟩
    have hSm : ∀ W V A B c d, Below W.heap.size W V → Sl RS 1 (hp W) A m.segs → Sl RS 1 (hp W) B m.segs → Calls Tryd.prog 9 #[.agg #[.slice A m.segs.length c, .string m.log, .int .i64 m.next, .int .i64 m.seq], .agg #[.slice B m.segs.length d, .string m.log, .int .i64 m.next, .int .i64 m.seq]] V fun e w' => e = .returned (.bool true) ∧ Below V.heap.size V w' := fun W V A B c d hb h1 h2 => by
      have := same_calls (hp W) V ((In.hp W).below hb) m m A B c d h1 h2
      rw [show decide (m = m) = true by simp] at this
      exact this
    have e0 := toList_pos ht0
    have e1 := toList_pos2 ht0
    rw [← ht] at hE
    have HE := Lib.hid hE
    have HD1 := Lib.hid hD1
    have HD2 := Lib.hid hD2
    have HSm := Lib.hid hSm
    have HTB := Lib.hid htb
    have HTS := Lib.hid hts
    have hz1 : ¬ (9223372036854775807 < t.size + 1) := by omega
    have hts2 : t.size ≤ 30000 := by omega
    clear hE hD1 hD2 hSm henc ht htb hts
    have tk1 := Lib.hid True.intro
    have tk2 := Lib.hid True.intro
    by_cases hch : change = 0
    · subst hch
      go_enter Tryd.func4, Tryd.ntmps4
      go_wp2_with (first
        | (go_at_call 5; go_must (refine (HE.out _ (hI.below HB0)).mono ?_; rintro e w1 ⟨rfl, hb⟩; have HB1 := below_step hb HB0; have K1 := K0.below hb; clear hb))
        | (clear tk1; go_at_call 7; go_must (refine (HD1.out _ (hI.below HB1)).mono ?_; rintro e w2 ⟨⟨A2, c2, rfl, hs2⟩, hb⟩; have HB2 := below_step hb HB1; have HS2 := Lib.hid hs2; have K2 := K1.below hb; have q0 := K2.cell 0 rfl; have q1 := K2.cell 1 rfl; have q2 := K2.cell 2 rfl; have q3 := K2.cell 3 rfl; have hz2 := K2.lt; clear hs2 hb))
        | (go_at_call 9; go_must (refine (HSm.out w2 _ _ _ _ _ (below_allocS (Below.refl _ _) _) HS2.out (hA.mono (hI.below HB2) (fun _ _ _ h => h))).mono ?_; rintro e w3 ⟨rfl, hb⟩; have HB3 := below_step hb (below_allocS HB2 _); clear hb))
        | (go_at_call 7; go_must (refine (HD2.out _ (hI.below HB3)).mono ?_; rintro e w4 ⟨⟨A4, c4, rfl⟩, hb⟩; have HB4 := below_step hb HB3; clear hb))
        | (go_at_call 10; go_must (refine (awake_calls H hG _ (hI.below (below_allocS HB4 _))).mono ?_; rintro e w6 ⟨rfl, hb⟩; have HB6 := below_step hb (below_allocS HB4 _); clear hb)))
      go_ret
      exact ⟨rfl, HB6⟩
    · have hcb : (change == 0) = false := by simp [hch]
      go_enter Tryd.func4, Tryd.ntmps4
      go_wp2_with (first
        | (go_at_call 5; go_must (refine (HE.out _ (hI.below HB0)).mono ?_; rintro e w1 ⟨rfl, hb⟩; have HB1 := below_step hb HB0; have K1 := K0.below hb; clear hb))
        | (clear tk1; go_at_call 7; go_must (refine (HD1.out _ (hI.below HB1)).mono ?_; rintro e w2 ⟨⟨A2, c2, rfl, hs2⟩, hb⟩; have HB2 := below_step hb HB1; have HS2 := Lib.hid hs2; have K2 := K1.below hb; have q0 := K2.cell 0 rfl; have q1 := K2.cell 1 rfl; have q2 := K2.cell 2 rfl; have q3 := K2.cell 3 rfl; have hz2 := K2.lt; clear hs2 hb))
        | (go_at_call 9; go_must (refine (HSm.out w2 _ _ _ _ _ (below_allocS (Below.refl _ _) _) HS2.out (hA.mono (hI.below HB2) (fun _ _ _ h => h))).mono ?_; rintro e w3 ⟨rfl, hb⟩; have HB3 := below_step hb (below_allocS HB2 _); clear hb))
        | (go_at_call 7; go_must (refine (HD2.out _ (hI.below HB3)).mono ?_; rintro e w4 ⟨⟨A4, c4, rfl⟩, hb⟩; have HB4 := below_step hb HB3; clear hb))
        | (go_at_call 10; go_must (refine (awake_calls H hG _ (hI.below (below_allocS HB4 _))).mono ?_; rintro e w6 ⟨rfl, hb⟩; have HB6 := below_step hb (below_allocS HB4 _); clear hb)))
      have HBW := below_allocS HB4 (.cells #[.slice A4 0 c4, .string ⟨#[]⟩, .int .i64 0, .int .i64 0] 24)
      clear HB1 K1 HB2 HS2 K2 q0 q1 q2 q3 hz2 HB3 HB4 HB0 K0
      generalize w4.alloc (.cells #[.slice A4 0 c4, .string ⟨#[]⟩, .int .i64 0, .int .i64 0] 24) = W at *
      have hcv0 := Lib.run_convert_string_bytes (P := Tryd.prog) W 9 38 5 t Tryd.underlying9 Tryd.underlying38 Tryd.underlying5
      have HB5 : Below w.heap.size w (Lib.bytesWorld W 5 t) := below_step (Lib.bytesWorld_below W 5 t) HBW
      have hbyte : Hid (∀ j (hj : j < t.size), (Lib.bytesWorld W 5 t).cell? ⟨W.heap.size, j, none⟩ = some (.int .u8 (t[j].toNat : Nat))) := Lib.hid (fun j hj => by
        rw [Lib.bytesWorld_cell W 5 t j hj]
        have := bl_get t j hj
        unfold bl at this
        rw [List.getD_eq_getElem?_getD, this]
        rfl)
      have hfz := Lib.hid (bytes_frozen W t)
      generalize Lib.bytesWorld W 5 t = W5 at *
      rw [hcv0]
      clear hcv0
      obtain ⟨ch, rfl⟩ := Int.eq_ofNat_of_zero_le h0
      obtain ⟨k, hk, hidx⟩ := idx_ok at_ t.size ht0 hts2
      have hmay' := HMAY.out
      have hkt : k < (text m).length := by rw [← HTS.out]; exact hk
      have htk : (text m)[k] = t[k] := by
        have h1 := bl_at t k hk
        have h2 := HTB.out
        rw [← h1]
        exact (List.getElem_of_eq h2.symm hkt)
      obtain ⟨y, hy⟩ : ∃ y : UInt8, y = UInt8.ofNat (t[k].toNat ^^^ ch) := ⟨_, rfl⟩
      have hxl : t[k].toNat ^^^ ch < 2 ^ 8 := Nat.xor_lt_two_pow t[k].toNat_lt (by omega)
      have hyn : y.toNat = t[k].toNat ^^^ ch := by rw [hy, UInt8.toNat_ofNat']; omega
      have hyx : y ≠ (text m)[k] := by
        rw [htk]
        intro e
        rw [e] at hyn
        have h3 : t[k].toNat ^^^ t[k].toNat = t[k].toNat ^^^ (t[k].toNat ^^^ ch) := by rw [← hyn]
        rw [← Nat.xor_assoc, Nat.xor_self, Nat.zero_xor] at h3
        apply hch
        omega
      have hturn := dec_turn hmay' hkt hyx
      have hx8 := bits_xor_u8_nat t[k].toNat ch t[k].toNat_lt (by omega)
      rw [← hyn] at hx8
      have hck := hbyte.out k hk
      have hfk := hfz.out k hk
      have hset := set_cells (W := W5) (b := W.heap.size) (i := k) (l := bl t) y (fun j hj => by
        have hj2 : j < t.size := by rwa [bl_length] at hj
        rw [bl_at t j hj2]
        exact hbyte.out j hj2) (by rw [bl_length]; exact hk)
      have hcv : ∀ cap, (convert 38 9 (.slice (some ⟨W.heap.size, 0, none⟩) t.size cap)).run Tryd.prog (W5.setCell ⟨W.heap.size, k, none⟩ (.int .u8 (y.toNat : Nat))) = .ok (.string (toB ((bl t).set k y))) (W5.setCell ⟨W.heap.size, k, none⟩ (.int .u8 (y.toNat : Nat))) := fun cap => by
        have := conv_bytes (c := cap) hset
        rw [List.length_set, bl_length] at this
        exact this
      have hD3 : ∀ V, In H V → Calls Tryd.prog 7 #[.string (toB ((bl t).set k y))] V fun e w' => (∃ A c, e = .returned (.tuple #[.agg #[.slice A 0 c, .string ⟨#[]⟩, .int .i64 0, .int .i64 0], .int .i64 110])) ∧ Below V.heap.size V w' := fun V hV => by
        have := dec_calls H hG V hV (toB ((bl t).set k y)) (by rw [size_toB, List.length_set, bl_length]; omega)
        have e : resP (bl (toB ((bl t).set k y))) = (Man.zero, 110) := resP_none (by rw [bl_toB, HTB.out]; exact hturn)
        rw [e] at this
        exact this.mono fun e w' ⟨⟨A, c, h, _⟩, hb⟩ => ⟨⟨A, c, h⟩, hb⟩
      obtain ⟨t3, ht3⟩ : ∃ x, x = toB ((bl t).set k y) := ⟨_, rfl⟩
      rw [← ht3] at hD3 hcv
      have HD3 := Lib.hid hD3
      have HB6 : Below w.heap.size w (W5.setCell ⟨W.heap.size, k, none⟩ (.int .u8 (y.toNat : Nat))) := HB5.setCell HBW.size _
      clear hD3 ht3 hset hfz hbyte hturn hyx hyn hy hmay' hkt htk hxl
      generalize y.toNat = yn at *
      generalize t[k].toNat = xn at *
      go_wp2_with (first
        | (go_at_call 7; go_must (refine (HD3.out _ (hI.below HB6)).mono ?_; rintro e w7 ⟨⟨A7, c7, rfl⟩, hb⟩; have HB7 := below_step hb HB6; clear hb))
        | (go_at_call 10; go_must (refine (awake_calls H hG _ (hI.below (below_allocS HB7 _))).mono ?_; rintro e w8 ⟨rfl, hb⟩; have HB8 := below_step hb (below_allocS HB7 _); clear hb)))
      go_ret
      exact ⟨rfl, HB8⟩
  · have hmb : mayB m = false := by simp [mayB, hmay]
    have henc : enc m = ([], 110) := by unfold enc; rw [if_neg (by rw [hmb]; simp)]
    rw [henc] at hE
    have hM := fun W (hW : In H W) => rmay_calls H W hW m A c hA hl hsz
    rw [hmb] at hM
    have HE : Hid (∀ W, In H W → Calls Tryd.prog 5 #[.agg #[.slice A m.segs.length c, .string m.log, .int .i64 m.next, .int .i64 m.seq]] W fun e w' => e = .returned (.tuple #[.string ⟨#[]⟩, .int .i64 110]) ∧ Below W.heap.size W w') := Lib.hid hE
    have HM := Lib.hid hM
    clear hE henc hmb hmay hM
    go_enter Tryd.func4, Tryd.ntmps4
    go_wp2_with (first
      | (go_at_call 5; go_must (refine (HE.out _ (hI.below HB0)).mono ?_; rintro e w1 ⟨rfl, hb⟩; have HB1 := below_step hb HB0; have K1 := K0.below hb; have q0 := K1.cell 0 rfl; have q1 := K1.cell 1 rfl; have q2 := K1.cell 2 rfl; have q3 := K1.cell 3 rfl; clear hb))
      | (go_at_call 11; go_must (refine (HM.out _ (hI.below HB1)).mono ?_; rintro e w2 ⟨rfl, hb⟩; have HB2 := below_step hb HB1; clear hb))
      | (go_at_call 10; go_must (refine (awake_calls H hG _ (hI.below HB2)).mono ?_; rintro e w6 ⟨rfl, hb⟩; have HB6 := below_step hb HB2; clear hb)))
    go_ret
    exact ⟨rfl, HB6⟩
end Go.Proofs.YteeckkkcebljmaaDoor
