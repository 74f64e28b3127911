/- Walks: lodestarref16.Passes: not, all, any; joined. -/
import Derived.Test.YteoeahmfpohpeaaDoorWalkK
namespace Go.Proofs.YteoeahmfpohpeaaDoor
open Go.RowKit Go.Shelf
set_option maxRecDepth 100000
set_option linter.unusedVariables false
set_option linter.unusedSimpArgs false

set_option maxHeartbeats 2000000 in
theorem rpasses_all (H : PH) (n : Nat) (w : World) (nm : ByteArray) (v : Val) (lo hi : Int) (L : Value) (l : List Cond) (p : Pt) (V F : Value) (hI : In H w) (hL : RSl (RC H n) 8 H l L) (hV : V.oneCell' = true) (hF : RSl RFld 4 H p.flds F)
    (ih : PassesAt H 19 n p [.int .i64 p.id, V, F]) :
    Calls Tryd.prog 19 #[.agg (cCells 7 nm v lo hi L).toArray, .agg #[.int .i64 p.id, V, F]] w (PassPost w (passAll p.flds l)) := by
  obtain ⟨A, cp, rfl, _, hl⟩ := hF
  obtain ⟨A0, c0, rfl, _, hl0⟩ := hL
  have hm := hl0.le
  have hg := fun W hW => (rget_calls H W p.flds A cp nm hW hl)
  have K0 := (Blk.new w (cCells 7 nm v lo hi (.slice A0 l.length c0)) 26).alloc (.cells #[.int .i64 p.id, V, .slice A p.flds.length cp] 37)
  have P0 := Blk.new (w.alloc (.cells (cCells 7 nm v lo hi (.slice A0 l.length c0)).toArray 26)) [.int .i64 p.id, V, .slice A p.flds.length cp] 37
  rw [World.size_alloc] at P0
  go_enter Tryd.func19, Tryd.ntmps19
  go_wp2_with (go_at_call 30; go_must (refine (hg _ (hI.below (by repeat (first | exact Below.refl _ _ | refine below_allocS ?_ _)))).mono ?_; rintro e w1 ⟨rfl, hb⟩; obtain ⟨hc, hf⟩ := bcell hb; have HB1 := below_step (w := w) hb (by repeat (first | exact Below.refl _ _ | refine below_allocS ?_ _)); have hz1 : w.heap.size + 1 < w1.heap.size := Nat.lt_of_lt_of_le (by simp) hb.size; have hz0 : w.heap.size < w1.heap.size := by omega))
  have K1 := (K0.below hb).alloc (.cells #[.int .i64 0, .int .i64 0, .string ⟨#[]⟩] 23)
  have P1 := (P0.below hb).alloc (.cells #[.int .i64 0, .int .i64 0, .string ⟨#[]⟩] 23)
  go_loopw [7] (fun v7 W => ∃ k : Nat, k ≤ l.length ∧ v7 = .int .i64 k ∧ Below w.heap.size w W ∧ Blk W w.heap.size (cCells 7 nm v lo hi (.slice A0 l.length c0)) ∧ Blk W (w.heap.size + 1) [.int .i64 p.id, V, .slice A p.flds.length cp] ∧ NoneYet (fun x => !passes p.flds x) l k) (fun v7 _ => l.length - (intOf v7).toNat)
  case atStart => exact ⟨0, by omega, rfl, by repeat (first | exact HB1 | refine below_allocS ?_ _ | refine Below.setCell ?_ (by simp; omega) _), by repeat (first | exact K0.below hb | refine Blk.alloc ?_ _ | refine Blk.far ?_ (by simp; omega) _), by repeat (first | exact P0.below hb | refine Blk.alloc ?_ _ | refine Blk.far ?_ (by simp; omega) _), fun _ _ h => by omega⟩
  case round =>
    obtain ⟨k, hk, rfl, HB, HC, HP, HN⟩ := hrel
    clear K1 P1 K0 P0 hc hf hb HB1 hz1 hz0 hg
    have hq7 := HC.cell 7 rfl
    have hql := HC.lt
    have hpl := HP.lt
    by_cases hlt : k < l.length
    · obtain ⟨b, off, cs, rfl, hR, hcell⟩ := hl0.get hlt
      have hcall := fun W (hW : In H W) => ih _ _ W hW hR
      obtain ⟨k', nm', v', lo', hi', A', m', c', rfl⟩ := hR.form
      have hc0 := rdW0 hI HB (hcell 0 _ rfl)
      have hc1 := rdW hI HB (hcell 1 _ rfl)
      have hc2 := rdW hI HB (hcell 2 _ rfl)
      have hc3 := rdW hI HB (hcell 3 _ rfl)
      have hc4 := rdW hI HB (hcell 4 _ rfl)
      have hc5 := rdW hI HB (hcell 5 _ rfl)
      have hc6 := rdW hI HB (hcell 6 _ rfl)
      have hc7 := rdW hI HB (hcell 7 _ rfl)
      have hp0 := HP.cell 0 rfl
      have hp1 := HP.cell 1 rfl
      have hp2 := HP.cell 2 rfl
      have hlt1 : (k : Int) < l.length := by omega
      cases hpk : passes p.flds l[k]
      · rw [hpk] at hcall
        have hit := Lib.hid (passAll_hit hlt hpk)
        go_wp2
        refine wp_region_still_tail 6 (by kernel_rfl) (by kernel_rfl) ?_
        simp only [List.take_succ_cons, List.take_zero, List.drop_succ_cons, List.drop_zero]
        repeat still_step
        refine wpStill_nil ?_
        go_wp2_with (go_at_call 19; go_must (refine (hcall _ (hI.below (by repeat (first | exact HB | refine Below.drew ?_)))).mono ?_; rintro e w2 ⟨rfl, hb2⟩; have HX : Below wr.heap.size wr w2 := below_step hb2 (by repeat (first | exact Below.refl _ _ | refine Below.drew ?_))))
        go_ret
        exact ⟨by rw [hit.out]; rfl, below_step HX HB⟩
      · rw [hpk] at hcall
        have HN' := HN.step hlt (by simp [hpk])
        clear HN
        go_wp2
        refine wp_region_still_tail 6 (by kernel_rfl) (by kernel_rfl) ?_
        simp only [List.take_succ_cons, List.take_zero, List.drop_succ_cons, List.drop_zero]
        repeat still_step
        refine wpStill_nil ?_
        go_wp2_with (go_at_call 19; go_must (refine (hcall _ (hI.below (by repeat (first | exact HB | refine Below.drew ?_)))).mono ?_; rintro e w2 ⟨rfl, hb2⟩; have HX : Below wr.heap.size wr w2 := below_step hb2 (by repeat (first | exact Below.refl _ _ | refine Below.drew ?_))))
        go_roundw
        case rel => exact ⟨k + 1, by omega, by go_num, below_step HX HB, HC.below HX, HP.below HX, HN'⟩
        case measure => simp [intOf]; omega
    · have hr := Lib.hid (passAll_none HN (by omega))
      clear HN
      go_wp2
      go_ret
      exact ⟨by rw [hr.out]; rfl, HB⟩

set_option maxHeartbeats 2000000 in
theorem rpasses_any (H : PH) (n : Nat) (w : World) (nm : ByteArray) (v : Val) (lo hi : Int) (L : Value) (l : List Cond) (p : Pt) (V F : Value) (hI : In H w) (hL : RSl (RC H n) 8 H l L) (hV : V.oneCell' = true) (hF : RSl RFld 4 H p.flds F)
    (ih : PassesAt H 19 n p [.int .i64 p.id, V, F]) :
    Calls Tryd.prog 19 #[.agg (cCells 8 nm v lo hi L).toArray, .agg #[.int .i64 p.id, V, F]] w (PassPost w (passAny p.flds l)) := by
  obtain ⟨A, cp, rfl, _, hl⟩ := hF
  obtain ⟨A0, c0, rfl, _, hl0⟩ := hL
  have hm := hl0.le
  have hg := fun W hW => (rget_calls H W p.flds A cp nm hW hl)
  have K0 := (Blk.new w (cCells 8 nm v lo hi (.slice A0 l.length c0)) 26).alloc (.cells #[.int .i64 p.id, V, .slice A p.flds.length cp] 37)
  have P0 := Blk.new (w.alloc (.cells (cCells 8 nm v lo hi (.slice A0 l.length c0)).toArray 26)) [.int .i64 p.id, V, .slice A p.flds.length cp] 37
  rw [World.size_alloc] at P0
  go_enter Tryd.func19, Tryd.ntmps19
  go_wp2_with (go_at_call 30; go_must (refine (hg _ (hI.below (by repeat (first | exact Below.refl _ _ | refine below_allocS ?_ _)))).mono ?_; rintro e w1 ⟨rfl, hb⟩; obtain ⟨hc, hf⟩ := bcell hb; have HB1 := below_step (w := w) hb (by repeat (first | exact Below.refl _ _ | refine below_allocS ?_ _)); have hz1 : w.heap.size + 1 < w1.heap.size := Nat.lt_of_lt_of_le (by simp) hb.size; have hz0 : w.heap.size < w1.heap.size := by omega))
  have K1 := (K0.below hb).alloc (.cells #[.int .i64 0, .int .i64 0, .string ⟨#[]⟩] 23)
  have P1 := (P0.below hb).alloc (.cells #[.int .i64 0, .int .i64 0, .string ⟨#[]⟩] 23)
  go_loopw [8] (fun v7 W => ∃ k : Nat, k ≤ l.length ∧ v7 = .int .i64 k ∧ Below w.heap.size w W ∧ Blk W w.heap.size (cCells 8 nm v lo hi (.slice A0 l.length c0)) ∧ Blk W (w.heap.size + 1) [.int .i64 p.id, V, .slice A p.flds.length cp] ∧ NoneYet (fun x => passes p.flds x) l k) (fun v7 _ => l.length - (intOf v7).toNat)
  case atStart => exact ⟨0, by omega, rfl, by repeat (first | exact HB1 | refine below_allocS ?_ _ | refine Below.setCell ?_ (by simp; omega) _), by repeat (first | exact K0.below hb | refine Blk.alloc ?_ _ | refine Blk.far ?_ (by simp; omega) _), by repeat (first | exact P0.below hb | refine Blk.alloc ?_ _ | refine Blk.far ?_ (by simp; omega) _), fun _ _ h => by omega⟩
  case round =>
    obtain ⟨k, hk, rfl, HB, HC, HP, HN⟩ := hrel
    clear K1 P1 K0 P0 hc hf hb HB1 hz1 hz0 hg
    have hq7 := HC.cell 7 rfl
    have hql := HC.lt
    have hpl := HP.lt
    by_cases hlt : k < l.length
    · obtain ⟨b, off, cs, rfl, hR, hcell⟩ := hl0.get hlt
      have hcall := fun W (hW : In H W) => ih _ _ W hW hR
      obtain ⟨k', nm', v', lo', hi', A', m', c', rfl⟩ := hR.form
      have hc0 := rdW0 hI HB (hcell 0 _ rfl)
      have hc1 := rdW hI HB (hcell 1 _ rfl)
      have hc2 := rdW hI HB (hcell 2 _ rfl)
      have hc3 := rdW hI HB (hcell 3 _ rfl)
      have hc4 := rdW hI HB (hcell 4 _ rfl)
      have hc5 := rdW hI HB (hcell 5 _ rfl)
      have hc6 := rdW hI HB (hcell 6 _ rfl)
      have hc7 := rdW hI HB (hcell 7 _ rfl)
      have hp0 := HP.cell 0 rfl
      have hp1 := HP.cell 1 rfl
      have hp2 := HP.cell 2 rfl
      have hlt1 : (k : Int) < l.length := by omega
      cases hpk : passes p.flds l[k]
      · rw [hpk] at hcall
        have HN' := HN.step hlt (by simp [hpk])
        clear HN
        go_wp2
        refine wp_region_still_tail 6 (by kernel_rfl) (by kernel_rfl) ?_
        simp only [List.take_succ_cons, List.take_zero, List.drop_succ_cons, List.drop_zero]
        repeat still_step
        refine wpStill_nil ?_
        go_wp2_with (go_at_call 19; go_must (refine (hcall _ (hI.below (by repeat (first | exact HB | refine Below.drew ?_)))).mono ?_; rintro e w2 ⟨rfl, hb2⟩; have HX : Below wr.heap.size wr w2 := below_step hb2 (by repeat (first | exact Below.refl _ _ | refine Below.drew ?_))))
        go_roundw
        case rel => exact ⟨k + 1, by omega, by go_num, below_step HX HB, HC.below HX, HP.below HX, HN'⟩
        case measure => simp [intOf]; omega
      · rw [hpk] at hcall
        have hit := Lib.hid (passAny_hit hlt hpk)
        go_wp2
        refine wp_region_still_tail 6 (by kernel_rfl) (by kernel_rfl) ?_
        simp only [List.take_succ_cons, List.take_zero, List.drop_succ_cons, List.drop_zero]
        repeat still_step
        refine wpStill_nil ?_
        go_wp2_with (go_at_call 19; go_must (refine (hcall _ (hI.below (by repeat (first | exact HB | refine Below.drew ?_)))).mono ?_; rintro e w2 ⟨rfl, hb2⟩; have HX : Below wr.heap.size wr w2 := below_step hb2 (by repeat (first | exact Below.refl _ _ | refine Below.drew ?_))))
        go_ret
        exact ⟨by rw [hit.out]; rfl, below_step HX HB⟩
    · have hr := Lib.hid (passAny_none HN (by omega))
      clear HN
      go_wp2
      go_ret
      exact ⟨by rw [hr.out]; rfl, HB⟩

set_option maxHeartbeats 2000000 in
theorem rpasses_not0 (H : PH) (n : Nat) (w : World) (nm : ByteArray) (v : Val) (lo hi : Int) (L : Value) (l : List Cond) (p : Pt) (V F : Value) (hI : In H w) (hL : RSl (RC H n) 8 H l L) (hV : V.oneCell' = true) (hF : RSl RFld 4 H p.flds F) (hn : l.length ≠ 1)
    (ih : PassesAt H 19 n p [.int .i64 p.id, V, F]) :
    Calls Tryd.prog 19 #[.agg (cCells 6 nm v lo hi L).toArray, .agg #[.int .i64 p.id, V, F]] w (PassPost w (false)) := by
  obtain ⟨A, cp, rfl, _, hl⟩ := hF
  obtain ⟨A0, c0, rfl, _, hl0⟩ := hL
  have hm := hl0.le
  have hg := fun W hW => (rget_calls H W p.flds A cp nm hW hl)
  have hd : ((l.length : Int) == 1) = false := by rw [beq_eq_false_iff_ne]; omega
  go_enter Tryd.func19, Tryd.ntmps19
  go_wp2_with (go_at_call 30; go_must (refine (hg _ (hI.below (by repeat (first | exact Below.refl _ _ | refine below_allocS ?_ _)))).mono ?_; rintro e w1 ⟨rfl, hb⟩; obtain ⟨hc, hf⟩ := bcell hb; have HB1 := below_step (w := w) hb (by repeat (first | exact Below.refl _ _ | refine below_allocS ?_ _)); have hz1 : w.heap.size + 1 < w1.heap.size := Nat.lt_of_lt_of_le (by simp) hb.size; have hz0 : w.heap.size < w1.heap.size := by omega))
  go_quiet (fail)
  go_wp2
  go_ret
  exact ⟨rfl, below_drewN (by repeat (first | exact HB1 | refine below_allocS ?_ _ | refine Below.setCell ?_ (by simp; omega) _)) _⟩

set_option maxHeartbeats 2000000 in
theorem rpasses_not1 (H : PH) (n : Nat) (w : World) (nm : ByteArray) (v : Val) (lo hi : Int) (L : Value) (x : Cond) (p : Pt) (V F : Value) (hI : In H w) (hL : RSl (RC H n) 8 H [x] L) (hV : V.oneCell' = true) (hF : RSl RFld 4 H p.flds F)
    (ih : PassesAt H 19 n p [.int .i64 p.id, V, F]) :
    Calls Tryd.prog 19 #[.agg (cCells 6 nm v lo hi L).toArray, .agg #[.int .i64 p.id, V, F]] w (PassPost w (!passes p.flds x)) := by
  obtain ⟨A, cp, rfl, _, hl⟩ := hF
  obtain ⟨A0, c0, rfl, _, hl0⟩ := hL
  have hm := hl0.le
  have hg := fun W hW => (rget_calls H W p.flds A cp nm hW hl)
  have K0 := (Blk.new w (cCells 6 nm v lo hi (.slice A0 1 c0)) 26).alloc (.cells #[.int .i64 p.id, V, .slice A p.flds.length cp] 37)
  have P0 := Blk.new (w.alloc (.cells (cCells 6 nm v lo hi (.slice A0 1 c0)).toArray 26)) [.int .i64 p.id, V, .slice A p.flds.length cp] 37
  rw [World.size_alloc] at P0
  obtain ⟨b, off, cs, rfl, hR, hcell⟩ := hl0.get (j := 0) (by simp)
  simp only [List.getElem_cons_zero] at hR
  have hcall := fun W (hW : In H W) => ih _ _ W hW hR
  obtain ⟨k', nm', v', lo', hi', A', m', c', rfl⟩ := hR.form
  go_enter Tryd.func19, Tryd.ntmps19
  go_wp2_with (go_at_call 30; go_must (refine (hg _ (hI.below (by repeat (first | exact Below.refl _ _ | refine below_allocS ?_ _)))).mono ?_; rintro e w1 ⟨rfl, hb⟩; obtain ⟨hc, hf⟩ := bcell hb; have HB1 := below_step (w := w) hb (by repeat (first | exact Below.refl _ _ | refine below_allocS ?_ _)); have hz1 : w.heap.size + 1 < w1.heap.size := Nat.lt_of_lt_of_le (by simp) hb.size; have hz0 : w.heap.size < w1.heap.size := by omega))
  have K1 := (K0.below hb).alloc (.cells #[.int .i64 ((getF p.flds nm).getD Val.zero).kind, .int .i64 ((getF p.flds nm).getD Val.zero).n, .string ((getF p.flds nm).getD Val.zero).text] 23)
  have P1 := (P0.below hb).alloc (.cells #[.int .i64 ((getF p.flds nm).getD Val.zero).kind, .int .i64 ((getF p.flds nm).getD Val.zero).n, .string ((getF p.flds nm).getD Val.zero).text] 23)
  have HBW := below_allocS HB1 (.cells #[.int .i64 ((getF p.flds nm).getD Val.zero).kind, .int .i64 ((getF p.flds nm).getD Val.zero).n, .string ((getF p.flds nm).getD Val.zero).text] 23)
  generalize w1.alloc (.cells #[.int .i64 ((getF p.flds nm).getD Val.zero).kind, .int .i64 ((getF p.flds nm).getD Val.zero).n, .string ((getF p.flds nm).getD Val.zero).text] 23) = W at *
  have hc0 := rdW0 hI HBW (hcell 0 _ rfl)
  have hc1 := rdW hI HBW (hcell 1 _ rfl)
  have hc2 := rdW hI HBW (hcell 2 _ rfl)
  have hc3 := rdW hI HBW (hcell 3 _ rfl)
  have hc4 := rdW hI HBW (hcell 4 _ rfl)
  have hc5 := rdW hI HBW (hcell 5 _ rfl)
  have hc6 := rdW hI HBW (hcell 6 _ rfl)
  have hc7 := rdW hI HBW (hcell 7 _ rfl)
  simp only [Nat.zero_mul, Nat.add_zero] at hc0 hc1 hc2 hc3 hc4 hc5 hc6 hc7
  have hq7 := K1.cell 7 rfl
  have hp0 := P1.cell 0 rfl
  have hp1 := P1.cell 1 rfl
  have hp2 := P1.cell 2 rfl
  refine wp_region_still_tail 10 (by kernel_rfl) (by kernel_rfl) ?_
  simp only [List.take_succ_cons, List.take_zero, List.drop_succ_cons, List.drop_zero]
  repeat still_step
  refine wpStill_nil ?_
  go_wp2_with (go_at_call 19; go_must (refine (hcall _ (hI.below (by repeat (first | exact HBW | refine Below.drew ?_)))).mono ?_; rintro e w2 ⟨rfl, hb2⟩; have HB2 := below_step (w := w) hb2 (by repeat (first | exact HBW | refine Below.drew ?_))))
  go_ret
  exact ⟨rfl, HB2⟩

theorem rpasses_calls (H : PH) (p : Pt) (ps : List Value) (hp : RPt H p ps) : ∀ n, PassesAt H 19 n p ps := by
  obtain ⟨V, F, rfl, hV, hF⟩ := hp
  intro n
  induction n with
  | zero => intro c cs w _ h; exact h.elim
  | succ n ih =>
    intro c cs w hI h
    obtain ⟨k, nm, v, lo, hi, l, L, rfl, rfl, hL⟩ := h.open
    by_cases h1 : k = 1
    · subst h1; exact rpasses_true H w nm v lo hi L p V F hI hL.one hV.one hF
    by_cases h3 : k = 3
    · subst h3; exact rpasses_has H w nm v lo hi L p V F hI hL.one hV.one hF
    by_cases h4 : k = 4
    · subst h4; exact rpasses_is H w nm v lo hi L p V F hI hL.one hV.one hF
    by_cases h5 : k = 5
    · subst h5; exact rpasses_in H w nm v lo hi L p V F hI hL.one hV.one hF
    by_cases h6 : k = 6
    · subst h6
      by_cases hn : l.length = 1
      · obtain ⟨x, rfl⟩ := List.length_eq_one_iff.1 hn
        have e : passes p.flds (.mk 6 nm v lo hi [x]) = !passes p.flds x := by simp [passes, passAny]
        rw [e]
        exact rpasses_not1 H n w nm v lo hi L x p V F hI hL hV.one hF ih
      · have e : passes p.flds (.mk 6 nm v lo hi l) = false := by simp [passes, hn]
        rw [e]
        exact rpasses_not0 H n w nm v lo hi L l p V F hI hL hV.one hF hn ih
    by_cases h7 : k = 7
    · subst h7
      have e : passes p.flds (.mk 7 nm v lo hi l) = passAll p.flds l := by simp [passes]
      rw [e]
      exact rpasses_all H n w nm v lo hi L l p V F hI hL hV.one hF ih
    by_cases h8 : k = 8
    · subst h8
      have e : passes p.flds (.mk 8 nm v lo hi l) = passAny p.flds l := by simp [passes]
      rw [e]
      exact rpasses_any H n w nm v lo hi L l p V F hI hL hV.one hF ih
    have e : passes p.flds (.mk k nm v lo hi l) = false := by
      by_cases h2 : k = 2
      · subst h2; simp [passes]
      · simp [passes, *]
    rw [e]
    have q : ∀ {a : Int}, ¬ k = a → (k == a) = false := fun h => by simpa using h
    exact rpasses_none H w k nm v lo hi L p V F hI hL.one hV.one hF (q h1) (q h3) (q h4) (q h5) (q h6) (q h7) (q h8)
end Go.Proofs.YteoeahmfpohpeaaDoor
