/- Walks: manifest.Decode. -/
import Derived.Test.YteeckkkcebljmaaDoorMWalkK
import Derived.Test.YteeckkkcebljmaaDoorMPureE
namespace Go.Proofs.YteeckkkcebljmaaDoor
open Go.RowKit Go.Shelf Go.Sort
set_option maxRecDepth 100000
set_option linter.unusedVariables false
set_option linter.unusedSimpArgs false

theorem cut_calls (W : World) (x p : ByteArray) (r : ByteArray) (hr : r = toB (cutPre (bl p) (bl x))) : Calls Tryd.prog 18 #[.string x, .string p] W fun e w' => (∃ b, e = .returned (.tuple #[.string r, .bool b])) ∧ W = w' :=
  (Tryd.strings_CutPrefix x p W).mono fun e w' ⟨h1, h2⟩ => ⟨⟨Lib.hasPrefix x.data.toList p.data.toList, by rw [h1, hr]; rfl⟩, h2.symm⟩
theorem split_calls (H : PH) (hG : GL H) (W : World) (hI : In H W) (s : ByteArray) (hs : s.size ≤ 3000000) (L : List ByteArray) (hL : L = linesB s) :
    Calls Tryd.prog 17 #[.string s, .string ⟨#[10]⟩] W fun e w' => e = .returned (.slice (some ⟨W.heap.size, 0, none⟩) L.length L.length) ∧ Blk w' W.heap.size (L.map Value.string) ∧ Below W.heap.size W w' := by
  obtain ⟨m, t, fr, e1⟩ := hG.mx
  refine (Tryd.strings_Split s ⟨#[10]⟩ m W (by omega) (hI.one e1) (by decide)).mono ?_
  rintro e w' ⟨h1, h2⟩
  rw [← linesB_length, ← hL] at h1
  refine ⟨h1, ?_, ?_⟩
  · rw [h2, hL]
    exact Blk.new W _ _
  · rw [h2]
    exact below_allocS (Below.refl _ _) _
theorem Tryd.infoStr : (Tryd.prog.info? 9).map (fun i => (i.zero, i.size, i.bytes)) = some (some (.string ⟨#[]⟩), 1, 16) := by kernel_rfl
theorem resP_none {s : Str} (h : decP s = none) : resP s = (Man.zero, 110) := by unfold resP; rw [h]
theorem resP_some {s : Str} {m : Man} (h : decP s = some m) : resP s = (m, 0) := by unfold resP; rw [h]
theorem own_set {W : World} {base b i sz n : Nat} {e : TypeId} {v u : Value} {xs : List Value} (h : W.ownsRow base e sz v n xs) (hb : b < base) : (W.setCell ⟨b, i, none⟩ u).ownsRow base e sz v n xs :=
  h.kept (row := some b) ⟨rfl, rfl, rfl, by rw [setCell_size]; exact Nat.le_refl _, fun k hk hne => Below.heap_setCell W ⟨b, i, none⟩ u k (fun e => hne (by rw [e]))⟩ (by
    cases hv : v.ownBlock with
    | none => simp
    | some g =>
      have := own_base h g hv
      right
      intro e
      injection e with e
      omega)
theorem Sl.nilS (W : World) (A : Option Addr) : Sl RS 1 (hp W) A Man.zero.segs := Sl.nil _ _ _ _
set_option maxHeartbeats 2000000 in
theorem dec_calls (H : PH) (hG : GL H) (w : World) (hI : In H w) (s : ByteArray) (hs : s.size ≤ 3000000) :
    Calls Tryd.prog 7 #[.string s] w fun e w' => (∃ A c, e = .returned (.tuple #[.agg (mcells A c (resP (bl s)).1), .int .i64 (resP (bl s)).2]) ∧ Sl RS 1 (hp w') A (resP (bl s)).1.segs) ∧ Below w.heap.size w w' := by
  obtain ⟨L, hL⟩ : ∃ L, L = linesB s := ⟨_, rfl⟩
  have hLl := linesB_le s
  have hLb := linesB_bl s
  rw [← hL] at hLl hLb
  have hS := Lib.hid (fun W hW => split_calls H hG W hW s hs L hL)
  have HLb := Lib.hid hLb
  clear hL hLb
  have HB0 : Below w.heap.size w ((w.alloc (.cells #[.slice none 0 0, .string ⟨#[]⟩, .int .i64 0, .int .i64 0] 24)).alloc (.cells #[.slice none 0 0, .string ⟨#[]⟩, .int .i64 0, .int .i64 0] 24)) := below_allocS (below_allocS (Below.refl _ _) _) _
  have Kr0 := (Blk.new w [.slice none 0 0, .string ⟨#[]⟩, .int .i64 0, .int .i64 0] 24).alloc (.cells #[.slice none 0 0, .string ⟨#[]⟩, .int .i64 0, .int .i64 0] 24)
  have Km0 := Blk.new (w.alloc (.cells #[.slice none 0 0, .string ⟨#[]⟩, .int .i64 0, .int .i64 0] 24)) [.slice none 0 0, .string ⟨#[]⟩, .int .i64 0, .int .i64 0] 24
  rw [World.size_alloc] at Km0
  by_cases hlen : L.length < 6
  · have hR := Lib.hid (resP_none (s := bl s) (by unfold decP; rw [← HLb.out, List.length_map, if_pos hlen]))
    go_enter Tryd.func7, Tryd.ntmps7
    go_wp2_with (go_at_call 17; go_must (refine (hS.out _ (hI.below HB0)).mono ?_; rintro e w1 ⟨rfl, hK, hb⟩; have HB1 := Lib.hid (below_step hb HB0); have Kr1 := Kr0.below hb; have q0 := Kr1.cell 0 rfl; have q1 := Kr1.cell 1 rfl; have q2 := Kr1.cell 2 rfl; have q3 := Kr1.cell 3 rfl; have fz := Kr1.frozen; clear hK hb))
    have K4 := (((Kr1.set 0 (.slice none 0 0)).set 1 (.string ⟨#[]⟩)).set 2 (.int .i64 0)).set 3 (.int .i64 0)
    have r0 := K4.cell 0 rfl
    have r1 := K4.cell 1 rfl
    have r2 := K4.cell 2 rfl
    have r3 := K4.cell 3 rfl
    refine bodyPost_ret (v := .tuple #[.agg (mcells none 0 Man.zero), .int .i64 110]) (by simp [results, Tryd.results7, go_sem, r0, r1, r2, r3, mcells, Man.zero]) rfl ⟨⟨none, 0, by rw [hR.out], by rw [hR.out]; exact Sl.nilS _ _⟩, ?_⟩
    repeat (first | exact HB1.out | refine Below.setCell ?_ (by simp) _)
  · obtain ⟨M, hM⟩ : ∃ M, M = parseB L := ⟨_, rfl⟩
    have hML : M.segs.length = L.length - 6 := by rw [hM]; simp [parseB]; omega
    have hx : ∀ i (hi : i < L.length), L[i].size ≤ s.size := fun i hi => by
      have h1 : bl L[i] ∈ lines (bl s) := by rw [← HLb.out]; exact List.mem_map.2 ⟨_, List.getElem_mem hi, rfl⟩
      have h2 := line_le _ _ h1
      rwa [bl_length, bl_length] at h2
    have hg : ∀ i (hi : i < L.length), L.getD i ⟨#[]⟩ = L[i] := fun i hi => by rw [List.getD_eq_getElem?_getD, List.getElem?_eq_getElem hi]; rfl
    have hdec : Hid (decP (bl s) = if mayB M = true ∧ text M = bl s then some M else none) := Lib.hid (by
      unfold decP
      rw [← HLb.out, List.length_map, if_neg hlen, ← parseB_eq, ← hM])
    obtain ⟨a1, ha1⟩ : ∃ x, x = toB (cutPre wNext (bl (L[1]'(by omega)))) := ⟨_, rfl⟩
    obtain ⟨a2, ha2⟩ : ∃ x, x = toB (cutPre wSeq (bl (L[2]'(by omega)))) := ⟨_, rfl⟩
    have z1 : a1.size ≤ s.size := by rw [ha1, size_toB]; exact Nat.le_trans (cutPre_len _ _) (by rw [bl_length]; exact hx 1 (by omega))
    have z2 : a2.size ≤ s.size := by rw [ha2, size_toB]; exact Nat.le_trans (cutPre_len _ _) (by rw [bl_length]; exact hx 2 (by omega))
    have hlog : M.log = toB (cutPre wLog (bl (L[3]'(by omega)))) := by rw [hM]; unfold parseB; rw [hg 3 (by omega)]
    have zl : M.log.size ≤ s.size := by rw [hlog, size_toB]; exact Nat.le_trans (cutPre_len _ _) (by rw [bl_length]; exact hx 3 (by omega))
    have hn1 : (numP (bl a1)).1 = M.next := by rw [ha1, bl_toB, hM]; unfold parseB; rw [hg 1 (by omega)]
    have hn2 : (numP (bl a2)).1 = M.seq := by rw [ha2, bl_toB, hM]; unfold parseB; rw [hg 2 (by omega)]
    have kC1 := Lib.hid (fun W => cut_calls W (L[1]'(by omega)) ⟨#[110, 101, 120, 116, 32]⟩ a1 (by rw [ha1]; rfl))
    have kC2 := Lib.hid (fun W => cut_calls W (L[2]'(by omega)) ⟨#[115, 101, 113, 32]⟩ a2 (by rw [ha2]; rfl))
    have kC3 := Lib.hid (fun W => cut_calls W (L[3]'(by omega)) ⟨#[108, 111, 103, 32]⟩ M.log (by rw [hlog]; rfl))
    have kN1 := Lib.hid (fun W (hW : In H W) => hn1 ▸ number_calls H hG W hW a1 (by omega))
    have kN2 := Lib.hid (fun W (hW : In H W) => hn2 ▸ number_calls H hG W hW a2 (by omega))
    have hsegs : Hid (∀ k (hk : k < M.segs.length) (h4 : 4 + k < L.length), M.segs[k] = toB (cutPre wSegm (bl L[4 + k]))) := Lib.hid (fun k hk h4 => by
      subst hM
      simp [parseB])
    obtain ⟨l1, hl1⟩ : ∃ x, x = L[1]'(by omega) := ⟨_, rfl⟩
    obtain ⟨l2, hl2⟩ : ∃ x, x = L[2]'(by omega) := ⟨_, rfl⟩
    obtain ⟨l3, hl3⟩ : ∃ x, x = L[3]'(by omega) := ⟨_, rfl⟩
    have hc : ∀ W b, Blk W b (L.map Value.string) → W.cell? ⟨b, 1, none⟩ = some (.string l1) ∧ W.cell? ⟨b, 2, none⟩ = some (.string l2) ∧ W.cell? ⟨b, 3, none⟩ = some (.string l3) := fun W b h =>
      ⟨h.cell 1 (by rw [List.getElem?_map, List.getElem?_eq_getElem (by omega), hl1]; rfl), h.cell 2 (by rw [List.getElem?_map, List.getElem?_eq_getElem (by omega), hl2]; rfl), h.cell 3 (by rw [List.getElem?_map, List.getElem?_eq_getElem (by omega), hl3]; rfl)⟩
    rw [← hl1] at kC1
    rw [← hl2] at kC2
    rw [← hl3] at kC3
    have HC := Lib.hid hc
    have HX := Lib.hid hx
    clear hc hx hg ha1 ha2 hlog hn1 hn2 hl1 hl2 hl3 hM
    have tk1 := Lib.hid True.intro
    have tk2 := Lib.hid True.intro
    have tk3 := Lib.hid True.intro
    go_enter Tryd.func7, Tryd.ntmps7
    go_wp2_with (first
      | (go_at_call 17; go_must (refine (hS.out _ (hI.below HB0)).mono ?_; rintro e w1 ⟨rfl, hK, hb⟩; have HB1 := below_step hb HB0; have Kr1 := Kr0.below hb; have Km1 := Km0.below hb; rw [World.size_alloc, World.size_alloc] at hK; have Ks1 := Lib.hid hK; obtain ⟨c1, c2, c3⟩ := HC.out _ _ hK; clear hK hb))
      | (clear tk1; go_at_call 18; go_must (refine (kC1.out _).mono ?_; rintro e w' ⟨⟨bb1, rfl⟩, rfl⟩))
      | (clear tk2; go_at_call 18; go_must (refine (kC2.out _).mono ?_; rintro e w' ⟨⟨bb2, rfl⟩, rfl⟩))
      | (clear tk3; go_at_call 19; go_must (refine (kN1.out _ (hI.below HB1)).mono ?_; rintro e w2 ⟨rfl, hb⟩; have HB2 := below_step hb HB1; have Kr2 := Kr1.below hb; have Km2 := Km1.below hb; have Ks2 := Lib.hid (Ks1.out.below hb); have q2 := Km2.cell 2 rfl; have f2 := Km2.frozen 2; clear hb c1 c2 c3))
      | (go_at_call 19; go_must (refine (kN2.out _ (hI.below (HB2.setCell (by simp) _))).mono ?_; rintro e w3 ⟨rfl, hb⟩; have HB3 := below_step hb (HB2.setCell (by simp) _); have Kr3 := (Kr2.far (by simp) _).below hb; have Km3 := (Km2.set 2 _).below hb; have Ks3 := Lib.hid ((Ks2.out.far (by simp) _).below hb); have q3 := Km3.cell 3 rfl; have f3 := Km3.frozen 3; have q1 := Km3.cell 1 rfl; have f1 := Km3.frozen 1; obtain ⟨c1, c2, c3⟩ := HC.out _ _ Ks3.out; clear hb))
      | (go_at_call 18; go_must (refine (kC3.out _).mono ?_; rintro e w' ⟨⟨bb3, rfl⟩, rfl⟩)))
    have K4m : Blk ((w3.setCell ⟨w.heap.size + 1, 3, none⟩ (.int .i64 M.seq)).setCell ⟨w.heap.size + 1, 1, none⟩ (.string M.log)) (w.heap.size + 1) [.slice none 0 0, .string M.log, .int .i64 M.next, .int .i64 M.seq] := (Km3.set 3 _).set 1 _
    have K4s := (Ks3.out.far (a := ⟨w.heap.size + 1, 3, none⟩) (by simp) (.int .i64 M.seq)).far (a := ⟨w.heap.size + 1, 1, none⟩) (by simp) (.string M.log)
    have K4r := (Kr3.far (a := ⟨w.heap.size + 1, 3, none⟩) (by simp) (.int .i64 M.seq)).far (a := ⟨w.heap.size + 1, 1, none⟩) (by simp) (.string M.log)
    have HB4 : Below w.heap.size w ((w3.setCell ⟨w.heap.size + 1, 3, none⟩ (.int .i64 M.seq)).setCell ⟨w.heap.size + 1, 1, none⟩ (.string M.log)) := (HB3.setCell (by simp) _).setCell (by simp) _
    clear HB0 HB1 HB2 HB3 Kr0 Kr1 Kr2 Kr3 Km0 Km1 Km2 Km3 Ks1 Ks2 Ks3 q2 f2 q3 f3 q1 f1 c1 c2 c3 kC1 kC2 kC3 kN1 kN2 HC z1 z2
    have HML := Lib.hid hML
    clear hML
    go_loopw [11, 60] (fun _ v60 W => ∃ (k : Nat) (v : Value), k ≤ L.length - 6 ∧ v60 = .int .i64 k ∧ Blk W (w.heap.size + 1) [v, .string M.log, .int .i64 M.next, .int .i64 M.seq] ∧ W.ownsRow (w.heap.size + 3) 9 1 v k ((M.segs.take k).map Value.string) ∧ Blk W (w.heap.size + 1 + 1) (L.map Value.string) ∧ Blk W w.heap.size [.slice none 0 0, .string ⟨#[]⟩, .int .i64 0, .int .i64 0] ∧ Below w.heap.size w W) (fun _ v60 _ => L.length - (intOf v60).toNat)
    case atStart => exact ⟨0, _, by omega, rfl, K4m, World.ownsRow_nil _ _ _ _, K4s, K4r, HB4⟩
    case round =>
      obtain ⟨k, v, hk, rfl, HKm, HO, HKs, HKr, HB⟩ := hrel
      clear K4m K4s K4r HB4
      have HO' := Lib.hid HO
      obtain ⟨A5, c5, hv5, _⟩ := own_slice HO
      clear HO
      subst hv5
      have HKs' := Lib.hid HKs
      have hss := HB.size
      have hkl := HKs.lt
      by_cases hlt : k < L.length - 6
      · have hk2 : k < M.segs.length := by have := HML.out; omega
        obtain ⟨lk, hlk⟩ : ∃ x, x = L[4 + k]'(by omega) := ⟨_, rfl⟩
        have hck := HKs.cell (4 + k) (v := .string lk) (by rw [List.getElem?_map, List.getElem?_eq_getElem (by omega), hlk]; rfl)
        obtain ⟨sk, hsk⟩ : ∃ x, x = M.segs[k] := ⟨_, rfl⟩
        have kC := Lib.hid (fun W => cut_calls W lk ⟨#[115, 101, 103, 109, 101, 110, 116, 32]⟩ sk (by rw [hsk, hlk]; exact hsegs.out k hk2 (by omega)))
        have htk : Hid ((M.segs.take (k + 1)).map Value.string = (M.segs.take k).map Value.string ++ [.string sk]) := Lib.hid (by rw [List.take_succ_eq_append_getElem hk2, List.map_append, hsk]; rfl)
        have q0 := HKm.cell 0 rfl
        have hrb := fun j hj => own_base HO'.out j hj
        have hol : ((M.segs.take k).map Value.string).length = k := by rw [List.length_map, List.length_take]; omega
        clear HKs hlk hsk
        go_wp2_with (first
          | (go_at_call 18; go_must (refine (kC.out _).mono ?_; rintro e w' ⟨⟨bb4, rfl⟩, rfl⟩))
          | (at_builtin; go_must (refine app_new (W := wr) (w.heap.size + 3) rfl (.tmp 70) (.tmp 72) 22 9 (.string ⟨#[]⟩) 1 16 rfl Tryd.underlying22 Tryd.infoStr rfl (by decide) (by decide) _ _ _ [.string sk] rfl rfl rfl (by simp [Value.oneCell']) HO'.out (by omega) (by omega) ?_; intro g5 cap5 w5 hown5 hg5 hat5; have HO5 := Lib.hid hown5; have HG5 := Lib.hid hg5; have K5m := HKm.grown hg5 (fun j hj => by have := hrb j hj; omega); have q50 := K5m.cell 0 rfl; have f50 := K5m.frozen 0; clear hown5 hg5 hat5)))
        go_roundw
        case rel =>
          refine ⟨k + 1, _, by omega, by go_num, K5m.set 0 _, ?_, (HKs'.out.grown HG5.out (fun j hj => by have := hrb j hj; omega)).far (by simp) _, (HKr.grown HG5.out (fun j hj => by have := hrb j hj; omega)).far (by simp) _, (HB.grown HG5.out HB.size (fun j hj => by have := hrb j hj; omega)).setCell (by simp) _⟩
          rw [htk.out]
          exact own_set HO5.out (by omega)
        case measure => simp [intOf]; omega
      · obtain rfl : k = L.length - 6 := by omega
        rw [← HML.out, List.take_length] at HO'
        have HLe : Le H (hp wr) := hI.below HB
        obtain ⟨A', c', e', _, _, hsl⟩ := own_reads HO'.out (by have := HML.out; omega)
        cases e'
        have hE0 := enc_calls (hp wr) (hG.mono HLe) wr (In.hp wr) M A5 c5 hsl (by omega) (fun x hx => by
          obtain ⟨j, hj, rfl⟩ := List.getElem_of_mem hx
          have h4 : 4 + j < L.length := by have := HML.out; omega
          rw [hsegs.out j hj h4, size_toB]
          have h1 := cutPre_len wSegm (bl L[4 + j])
          rw [bl_length] at h1
          have h2 := HX.out (4 + j) h4
          omega)
        rw [HML.out] at hE0
        have q0 := HKm.cell 0 rfl
        have q1 := HKm.cell 1 rfl
        have q2 := HKm.cell 2 rfl
        have q3 := HKm.cell 3 rfl
        have HO2 := HO'
        rw [HML.out] at HO2
        clear hsl HKs
        have HKr' := Lib.hid HKr
        clear HKr
        by_cases hmay : mayB M = true
        · have henc : enc M = (text M, 0) := by unfold enc; rw [if_pos hmay]
          rw [henc] at hE0
          have HE := Lib.hid hE0
          by_cases htx : text M = bl s
          · have hR := Lib.hid (resP_some (s := bl s) (m := M) (by rw [hdec.out, if_pos ⟨hmay, htx⟩]))
            have hb : ((toB (text M)).toList == s.toList) = true := by rw [toB_beq]; simp [htx]
            clear hE0 henc hmay htx
            go_wp2_with (go_at_call 5; go_must (refine HE.out.mono ?_; rintro e w6 ⟨rfl, hb6⟩; have HB6 := Lib.hid (below_step hb6 HB); have K6m := HKm.below hb6; have K6r := HKr'.out.below hb6; have q60 := K6m.cell 0 rfl; have q61 := K6m.cell 1 rfl; have q62 := K6m.cell 2 rfl; have q63 := K6m.cell 3 rfl; have r0 := K6r.cell 0 rfl; have r1 := K6r.cell 1 rfl; have r2 := K6r.cell 2 rfl; have r3 := K6r.cell 3 rfl; have rz := K6r.frozen; have HO6 := Lib.hid (own_below HO2.out hb6); clear hb6))
            have K7 := (((K6r.set 0 (.slice A5 (L.length - 6) c5)).set 1 (.string M.log)).set 2 (.int .i64 M.next)).set 3 (.int .i64 M.seq)
            have t0 := K7.cell 0 rfl
            have t1 := K7.cell 1 rfl
            have t2 := K7.cell 2 rfl
            have t3 := K7.cell 3 rfl
            have HO7 := own_set (b := w.heap.size) (i := 3) (u := .int .i64 M.seq) (own_set (b := w.heap.size) (i := 2) (u := .int .i64 M.next) (own_set (b := w.heap.size) (i := 1) (u := .string M.log) (own_set (b := w.heap.size) (i := 0) (u := .slice A5 (L.length - 6) c5) HO6.out (by omega)) (by omega)) (by omega)) (by omega)
            obtain ⟨A', c', e', _, _, hsl⟩ := own_reads HO7 (by omega)
            cases e'
            refine bodyPost_ret (v := .tuple #[.agg #[.slice A5 (L.length - 6) c5, .string M.log, .int .i64 M.next, .int .i64 M.seq], .int .i64 0]) (by simp [results, Tryd.results7, go_sem, t0, t1, t2, t3]) rfl ⟨⟨A5, c5, by rw [hR.out]; unfold mcells; rw [HML.out], by rw [hR.out]; exact hsl⟩, ?_⟩
            repeat (first | exact HB6.out | refine Below.setCell ?_ (by simp) _)
          · have hR := Lib.hid (resP_none (s := bl s) (by rw [hdec.out, if_neg (fun h => htx h.2)]))
            have hb : ((toB (text M)).toList == s.toList) = false := by rw [toB_beq]; simp [htx]
            clear hE0 henc hmay htx
            go_wp2_with (go_at_call 5; go_must (refine HE.out.mono ?_; rintro e w6 ⟨rfl, hb6⟩; have HB6 := Lib.hid (below_step hb6 HB); have K6r := HKr'.out.below hb6; have r0 := K6r.cell 0 rfl; have r1 := K6r.cell 1 rfl; have r2 := K6r.cell 2 rfl; have r3 := K6r.cell 3 rfl; have rz := K6r.frozen; clear hb6))
            have K7 := (((K6r.set 0 (.slice none 0 0)).set 1 (.string ⟨#[]⟩)).set 2 (.int .i64 0)).set 3 (.int .i64 0)
            have t0 := K7.cell 0 rfl
            have t1 := K7.cell 1 rfl
            have t2 := K7.cell 2 rfl
            have t3 := K7.cell 3 rfl
            refine bodyPost_ret (v := .tuple #[.agg (mcells none 0 Man.zero), .int .i64 110]) (by simp [results, Tryd.results7, go_sem, t0, t1, t2, t3, mcells, Man.zero]) rfl ⟨⟨none, 0, by rw [hR.out], by rw [hR.out]; exact Sl.nilS _ _⟩, ?_⟩
            repeat (first | exact HB6.out | refine Below.setCell ?_ (by simp) _)
        · have henc : enc M = ([], 110) := by unfold enc; rw [if_neg hmay]
          rw [henc] at hE0
          have HE := Lib.hid hE0
          have hR := Lib.hid (resP_none (s := bl s) (by rw [hdec.out, if_neg (fun h => hmay h.1)]))
          clear hE0 henc hmay
          go_wp2_with (go_at_call 5; go_must (refine HE.out.mono ?_; rintro e w6 ⟨rfl, hb6⟩; have HB6 := Lib.hid (below_step hb6 HB); have K6r := HKr'.out.below hb6; have r0 := K6r.cell 0 rfl; have r1 := K6r.cell 1 rfl; have r2 := K6r.cell 2 rfl; have r3 := K6r.cell 3 rfl; have rz := K6r.frozen; clear hb6))
          have K7 := (((K6r.set 0 (.slice none 0 0)).set 1 (.string ⟨#[]⟩)).set 2 (.int .i64 0)).set 3 (.int .i64 0)
          have t0 := K7.cell 0 rfl
          have t1 := K7.cell 1 rfl
          have t2 := K7.cell 2 rfl
          have t3 := K7.cell 3 rfl
          refine bodyPost_ret (v := .tuple #[.agg (mcells none 0 Man.zero), .int .i64 110]) (by simp [results, Tryd.results7, go_sem, t0, t1, t2, t3, mcells, Man.zero]) rfl ⟨⟨none, 0, by rw [hR.out], by rw [hR.out]; exact Sl.nilS _ _⟩, ?_⟩
          repeat (first | exact HB6.out | refine Below.setCell ?_ (by simp) _)
end Go.Proofs.YteeckkkcebljmaaDoor
