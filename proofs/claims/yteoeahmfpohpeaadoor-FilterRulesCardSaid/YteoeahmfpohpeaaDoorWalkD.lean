/- Walks: filter.Passes, the kinds not, all, any; joined. -/
import Derived.Test.YteoeahmfpohpeaaDoorWalkC
namespace Go.Proofs.YteoeahmfpohpeaaDoor
open Go.RowKit Go.Shelf
set_option maxRecDepth 100000
set_option linter.unusedVariables false
set_option linter.unusedSimpArgs false
attribute [local go_sem] ta_always_always ta_has_always ta_has_has ta_is_always ta_is_has ta_is_is ta_within_always ta_within_has ta_within_is ta_within_within ta_not_always ta_not_has ta_not_is ta_not_within ta_not_not ta_all_always ta_all_has ta_all_is ta_all_within ta_all_not ta_all_all ta_any_always ta_any_has ta_any_is ta_any_within ta_any_not ta_any_all ta_any_any ta_nil_always ta_nil_has ta_nil_is ta_nil_within ta_nil_not ta_nil_all ta_nil_any
/-- What Passes answers, at conditions of a depth. -/
def PassesAt (H : PH) (f : Nat) (n : Nat) (p : Pt) (ps : List Value) : Prop := ∀ c cs w, In H w → RC H n c cs → Calls Tryd.prog f #[.agg cs.toArray, .agg ps.toArray] w (PassPost w (passes p.flds c))
theorem RC.open {H : PH} {n : Nat} {c : Cond} {cs : List Value} (h : RC H (n + 1) c cs) : ∃ k nm v lo hi l L, c = .mk k nm v lo hi l ∧ cs = cCells k nm v lo hi L ∧ RSl (RC H n) 8 H l L := by
  obtain ⟨k, nm, v, lo, hi, l⟩ := c
  obtain ⟨L, h1, h2⟩ := h
  exact ⟨k, nm, v, lo, hi, l, L, rfl, h1, h2⟩
theorem RC.form {H : PH} {n : Nat} {c : Cond} {cs : List Value} (h : RC H n c cs) : ∃ k nm v lo hi A m c, cs = cCells k nm v lo hi (.slice A m c) := by
  cases n with
  | zero => exact h.elim
  | succ n =>
    obtain ⟨k, nm, v, lo, hi, l, L, _, h1, A, c, rfl, _⟩ := h.open
    exact ⟨k, nm, v, lo, hi, A, _, c, h1⟩

set_option maxHeartbeats 2000000 in
theorem passes_all (H : PH) (n : Nat) (w : World) (nm : ByteArray) (v : Val) (lo hi : Int) (L : Value) (l : List Cond) (p : Pt) (V F : Value) (hI : In H w) (hL : RSl (RC H n) 8 H l L) (hV : V.oneCell' = true) (hF : F.oneCell' = true)
    (ih : PassesAt H 10 n p [.int .i64 p.id, V, F]) :
    Calls Tryd.prog 10 #[.agg (cCells 7 nm v lo hi L).toArray, .agg #[.int .i64 p.id, V, F]] w (PassPost w (passAll p.flds l)) := by
  obtain ⟨A, c, rfl, _, hl⟩ := hL
  have hm := hl.le
  go_enter Tryd.func10, Tryd.ntmps10
  go_wp2_with (first | (go_at_call 25; go_in))
  have HB0 := below_allocS (below_allocS (below_allocS (Below.refl w.heap.size w) (.cells (cCells 7 nm v lo hi (.slice A l.length c)).toArray 26)) (.cells #[.int .i64 p.id, V, F] 37)) (.cells (cCells 7 nm v lo hi (.slice A l.length c)).toArray 26)
  have P0 := (Blk.new (w.alloc (.cells (cCells 7 nm v lo hi (.slice A l.length c)).toArray 26)) [.int .i64 p.id, V, F] 37).alloc (.cells (cCells 7 nm v lo hi (.slice A l.length c)).toArray 26)
  rw [World.size_alloc] at P0
  simp only [Array.getD_eq_getD_getElem?, List.size_toArray, List.length_cons, List.length_nil, Nat.zero_add, Nat.reduceAdd, Nat.reduceLT, Nat.lt_add_one, getElem?_pos, List.getElem_toArray, List.getElem_cons_succ, List.getElem_cons_zero, Option.getD_some]
  go_loopw [108] (fun v108 W => ∃ k : Nat, k ≤ l.length ∧ v108 = .int .i64 k ∧ Below w.heap.size w W ∧ Blk W (w.heap.size + 1) [.int .i64 p.id, V, F] ∧ NoneYet (fun x => !passes p.flds x) l k) (fun v108 _ => l.length - (intOf v108).toNat)
  case atStart => exact ⟨0, by omega, rfl, HB0, P0, fun _ _ h => by omega⟩
  case round =>
    obtain ⟨k, hk, rfl, HB, HP, HN⟩ := hrel
    clear HB0 P0
    by_cases hlt : k < l.length
    · obtain ⟨b, off, cs, rfl, hR, hcell⟩ := hl.get hlt
      have hcall := fun W (hW : In H W) => ih _ _ W hW hR
      obtain ⟨k', nm', v', lo', hi', A', m', c', rfl⟩ := hR.form
      have hc0 := rdW0 hI HB (hcell 0 _ rfl)
      have hc1 := rdW hI HB (hcell 1 _ rfl)
      have hc2 := rdW hI HB (hcell 2 _ rfl)
      have hc3 := rdW hI HB (hcell 3 _ rfl)
      have hc4 := rdW hI HB (hcell 4 _ rfl)
      have hc5 := rdW hI HB (hcell 5 _ rfl)
      have hc6 := rdW hI HB (hcell 6 _ rfl)
      have hc7 := rdW hI HB (hcell 7 _ rfl)
      have hp0 := HP.cell 0 rfl
      have hp1 := HP.cell 1 rfl
      have hp2 := HP.cell 2 rfl
      have hpl := HP.lt
      cases hpk : passes p.flds l[k]
      · rw [hpk] at hcall
        have hit := Lib.hid (passAll_hit hlt hpk)
        go_wp2_with (go_at_call 10; go_must (refine (hcall _ (hI.below (by repeat (first | exact HB | refine below_allocS ?_ _ | refine Below.setCell ?_ (by have := HB.size; simp; omega) _)))).mono ?_; rintro e w1 ⟨rfl, hb⟩; have HB1 := below_step (w := w) hb (by repeat (first | exact HB | refine below_allocS ?_ _ | refine Below.setCell ?_ (by have := HB.size; simp; omega) _))))
        go_ret
        exact ⟨by rw [hit.out]; rfl, HB1⟩
      · rw [hpk] at hcall
        have HN' := HN.step hlt (by simp [hpk])
        clear HN
        go_wp2_with (go_at_call 10; go_must (refine (hcall _ (hI.below (by repeat (first | exact HB | refine below_allocS ?_ _ | refine Below.setCell ?_ (by have := HB.size; simp; omega) _)))).mono ?_; rintro e w1 ⟨rfl, hb⟩; have HB1 := below_step (w := w) hb (by repeat (first | exact HB | refine below_allocS ?_ _ | refine Below.setCell ?_ (by have := HB.size; simp; omega) _)); have HP1 : Blk w1 (w.heap.size + 1) [.int .i64 p.id, V, F] := Blk.below (by repeat (first | exact HP | refine Blk.alloc ?_ _ | refine Blk.far ?_ (by simp; omega) _)) hb))
        go_roundw
        case rel => exact ⟨k + 1, by omega, by go_num, HB1, HP1, HN'⟩
        case measure => simp [intOf]; omega
    · have hr := Lib.hid (passAll_none HN (by omega))
      go_wp2
      go_ret
      exact ⟨by rw [hr.out]; rfl, HB⟩
set_option maxHeartbeats 2000000 in
theorem passes_any (H : PH) (n : Nat) (w : World) (nm : ByteArray) (v : Val) (lo hi : Int) (L : Value) (l : List Cond) (p : Pt) (V F : Value) (hI : In H w) (hL : RSl (RC H n) 8 H l L) (hV : V.oneCell' = true) (hF : F.oneCell' = true)
    (ih : PassesAt H 10 n p [.int .i64 p.id, V, F]) :
    Calls Tryd.prog 10 #[.agg (cCells 8 nm v lo hi L).toArray, .agg #[.int .i64 p.id, V, F]] w (PassPost w (passAny p.flds l)) := by
  obtain ⟨A, c, rfl, _, hl⟩ := hL
  have hm := hl.le
  go_enter Tryd.func10, Tryd.ntmps10
  go_wp2_with (first | (go_at_call 25; go_in))
  have HB0 := below_allocS (below_allocS (below_allocS (Below.refl w.heap.size w) (.cells (cCells 8 nm v lo hi (.slice A l.length c)).toArray 26)) (.cells #[.int .i64 p.id, V, F] 37)) (.cells (cCells 8 nm v lo hi (.slice A l.length c)).toArray 26)
  have P0 := (Blk.new (w.alloc (.cells (cCells 8 nm v lo hi (.slice A l.length c)).toArray 26)) [.int .i64 p.id, V, F] 37).alloc (.cells (cCells 8 nm v lo hi (.slice A l.length c)).toArray 26)
  rw [World.size_alloc] at P0
  simp only [Array.getD_eq_getD_getElem?, List.size_toArray, List.length_cons, List.length_nil, Nat.zero_add, Nat.reduceAdd, Nat.reduceLT, Nat.lt_add_one, getElem?_pos, List.getElem_toArray, List.getElem_cons_succ, List.getElem_cons_zero, Option.getD_some]
  go_loopw [122] (fun v122 W => ∃ k : Nat, k ≤ l.length ∧ v122 = .int .i64 k ∧ Below w.heap.size w W ∧ Blk W (w.heap.size + 1) [.int .i64 p.id, V, F] ∧ NoneYet (fun x => passes p.flds x) l k) (fun v122 _ => l.length - (intOf v122).toNat)
  case atStart => exact ⟨0, by omega, rfl, HB0, P0, fun _ _ h => by omega⟩
  case round =>
    obtain ⟨k, hk, rfl, HB, HP, HN⟩ := hrel
    clear HB0 P0
    by_cases hlt : k < l.length
    · obtain ⟨b, off, cs, rfl, hR, hcell⟩ := hl.get hlt
      have hcall := fun W (hW : In H W) => ih _ _ W hW hR
      obtain ⟨k', nm', v', lo', hi', A', m', c', rfl⟩ := hR.form
      have hc0 := rdW0 hI HB (hcell 0 _ rfl)
      have hc1 := rdW hI HB (hcell 1 _ rfl)
      have hc2 := rdW hI HB (hcell 2 _ rfl)
      have hc3 := rdW hI HB (hcell 3 _ rfl)
      have hc4 := rdW hI HB (hcell 4 _ rfl)
      have hc5 := rdW hI HB (hcell 5 _ rfl)
      have hc6 := rdW hI HB (hcell 6 _ rfl)
      have hc7 := rdW hI HB (hcell 7 _ rfl)
      have hp0 := HP.cell 0 rfl
      have hp1 := HP.cell 1 rfl
      have hp2 := HP.cell 2 rfl
      have hpl := HP.lt
      cases hpk : passes p.flds l[k]
      · rw [hpk] at hcall
        have HN' := HN.step hlt (by simp [hpk])
        clear HN
        go_wp2_with (go_at_call 10; go_must (refine (hcall _ (hI.below (by repeat (first | exact HB | refine below_allocS ?_ _ | refine Below.setCell ?_ (by have := HB.size; simp; omega) _)))).mono ?_; rintro e w1 ⟨rfl, hb⟩; have HB1 := below_step (w := w) hb (by repeat (first | exact HB | refine below_allocS ?_ _ | refine Below.setCell ?_ (by have := HB.size; simp; omega) _)); have HP1 : Blk w1 (w.heap.size + 1) [.int .i64 p.id, V, F] := Blk.below (by repeat (first | exact HP | refine Blk.alloc ?_ _ | refine Blk.far ?_ (by simp; omega) _)) hb))
        go_roundw
        case rel => exact ⟨k + 1, by omega, by go_num, HB1, HP1, HN'⟩
        case measure => simp [intOf]; omega
      · rw [hpk] at hcall
        have hit := Lib.hid (passAny_hit hlt hpk)
        go_wp2_with (go_at_call 10; go_must (refine (hcall _ (hI.below (by repeat (first | exact HB | refine below_allocS ?_ _ | refine Below.setCell ?_ (by have := HB.size; simp; omega) _)))).mono ?_; rintro e w1 ⟨rfl, hb⟩; have HB1 := below_step (w := w) hb (by repeat (first | exact HB | refine below_allocS ?_ _ | refine Below.setCell ?_ (by have := HB.size; simp; omega) _))))
        go_ret
        exact ⟨by rw [hit.out]; rfl, HB1⟩
    · have hr := Lib.hid (passAny_none HN (by omega))
      go_wp2
      go_ret
      exact ⟨by rw [hr.out]; rfl, HB⟩

set_option maxHeartbeats 2000000 in
theorem passes_not0 (H : PH) (n : Nat) (w : World) (nm : ByteArray) (v : Val) (lo hi : Int) (L : Value) (l : List Cond) (p : Pt) (V F : Value) (hI : In H w) (hL : RSl (RC H n) 8 H l L) (hV : V.oneCell' = true) (hF : F.oneCell' = true) (hn : l.length ≠ 1) :
    Calls Tryd.prog 10 #[.agg (cCells 6 nm v lo hi L).toArray, .agg #[.int .i64 p.id, V, F]] w (PassPost w false) := by
  obtain ⟨A, c, rfl, _, hl⟩ := hL
  have hm := hl.le
  have hd : ((l.length : Int) == 1) = false := by rw [beq_eq_false_iff_ne]; omega
  go_enter Tryd.func10, Tryd.ntmps10
  go_wp2_with (first | (go_at_call 25; go_in))
  go_quiet (fail)
  go_wp2
  go_ret
  exact ⟨rfl, below_drewN (by repeat (first | exact Below.refl _ _ | refine below_allocS ?_ _)) _⟩
set_option maxHeartbeats 2000000 in
theorem passes_not1 (H : PH) (n : Nat) (w : World) (nm : ByteArray) (v : Val) (lo hi : Int) (L : Value) (x : Cond) (p : Pt) (V F : Value) (hI : In H w) (hL : RSl (RC H n) 8 H [x] L) (hV : V.oneCell' = true) (hF : F.oneCell' = true)
    (ih : PassesAt H 10 n p [.int .i64 p.id, V, F]) :
    Calls Tryd.prog 10 #[.agg (cCells 6 nm v lo hi L).toArray, .agg #[.int .i64 p.id, V, F]] w (PassPost w (!passes p.flds x)) := by
  obtain ⟨A, c, rfl, _, hl⟩ := hL
  have hm := hl.le
  obtain ⟨b, off, cs, rfl, hR, hcell⟩ := hl.get (j := 0) (by simp)
  simp only [List.getElem_cons_zero] at hR
  have hcall := fun W (hW : In H W) => ih _ _ W hW hR
  obtain ⟨k', nm', v', lo', hi', A', m', c', rfl⟩ := hR.form
  go_enter Tryd.func10, Tryd.ntmps10
  go_wp2_with (first | (go_at_call 25; go_in))
  have HB0 := below_allocS (below_allocS (below_allocS (Below.refl w.heap.size w) (.cells (cCells 6 nm v lo hi (.slice (some ⟨b, off, none⟩) 1 c)).toArray 26)) (.cells #[.int .i64 p.id, V, F] 37)) (.cells (cCells 6 nm v lo hi (.slice (some ⟨b, off, none⟩) 1 c)).toArray 26)
  have P0 := (Blk.new (w.alloc (.cells (cCells 6 nm v lo hi (.slice (some ⟨b, off, none⟩) 1 c)).toArray 26)) [.int .i64 p.id, V, F] 37).alloc (.cells (cCells 6 nm v lo hi (.slice (some ⟨b, off, none⟩) 1 c)).toArray 26)
  rw [World.size_alloc] at P0
  simp only [cCells] at HB0 P0
  generalize (((w.alloc (.cells #[.int .i64 6, .string nm, .int .i64 v.kind, .int .i64 v.n, .string v.text, .int .i64 lo, .int .i64 hi, .slice (some ⟨b, off, none⟩) 1 c] 26)).alloc (.cells #[.int .i64 p.id, V, F] 37)).alloc (.cells #[.int .i64 6, .string nm, .int .i64 v.kind, .int .i64 v.n, .string v.text, .int .i64 lo, .int .i64 hi, .slice (some ⟨b, off, none⟩) 1 c] 26)) = W at *
  have hc0 := rdW0 hI HB0 (hcell 0 _ rfl)
  have hc1 := rdW hI HB0 (hcell 1 _ rfl)
  have hc2 := rdW hI HB0 (hcell 2 _ rfl)
  have hc3 := rdW hI HB0 (hcell 3 _ rfl)
  have hc4 := rdW hI HB0 (hcell 4 _ rfl)
  have hc5 := rdW hI HB0 (hcell 5 _ rfl)
  have hc6 := rdW hI HB0 (hcell 6 _ rfl)
  have hc7 := rdW hI HB0 (hcell 7 _ rfl)
  simp only [Nat.zero_mul, Nat.add_zero] at hc0 hc1 hc2 hc3 hc4 hc5 hc6 hc7
  have hp0 := P0.cell 0 rfl
  have hp1 := P0.cell 1 rfl
  have hp2 := P0.cell 2 rfl
  refine wp_region_still_tail 8 (by kernel_rfl) (by kernel_rfl) ?_
  simp only [List.take_succ_cons, List.take_zero, List.drop_succ_cons, List.drop_zero]
  repeat still_step
  refine wpStill_nil ?_
  go_wp2_with (go_at_call 10; go_must (refine (hcall _ (hI.below (by repeat (first | exact HB0 | refine Below.drew ?_)))).mono ?_; rintro e w1 ⟨rfl, hb⟩; have HB1 := below_step (w := w) hb (by repeat (first | exact HB0 | refine Below.drew ?_))))
  go_ret
  exact ⟨rfl, HB1⟩

theorem passes_calls (H : PH) (p : Pt) (ps : List Value) (hp : RPt H p ps) : ∀ n, PassesAt H 10 n p ps := by
  obtain ⟨V, F, rfl, hV, hF⟩ := hp
  intro n
  induction n with
  | zero => intro c cs w _ h; exact h.elim
  | succ n ih =>
    intro c cs w hI h
    obtain ⟨k, nm, v, lo, hi, l, L, rfl, rfl, hL⟩ := h.open
    by_cases h1 : k = 1
    · subst h1; exact passes_true w nm v lo hi L p.id V F hL.one hV.one hF.one
    by_cases h2 : k = 2
    · subst h2; exact passes_false w nm v lo hi L p.id V F hL.one hV.one hF.one
    by_cases h3 : k = 3
    · subst h3; exact passes_has H w nm v lo hi L p V F hI hL.one hV.one hF
    by_cases h4 : k = 4
    · subst h4; exact passes_is H w nm v lo hi L p V F hI hL.one hV.one hF
    by_cases h5 : k = 5
    · subst h5; exact passes_in H w nm v lo hi L p V F hI hL.one hV.one hF
    by_cases h6 : k = 6
    · subst h6
      by_cases hn : l.length = 1
      · obtain ⟨x, rfl⟩ := List.length_eq_one_iff.1 hn
        have e : passes p.flds (.mk 6 nm v lo hi [x]) = !passes p.flds x := by simp [passes, passAny]
        rw [e]
        exact passes_not1 H n w nm v lo hi L x p V F hI hL hV.one hF.one ih
      · have e : passes p.flds (.mk 6 nm v lo hi l) = false := by simp [passes, hn]
        rw [e]
        exact passes_not0 H n w nm v lo hi L l p V F hI hL hV.one hF.one hn
    by_cases h7 : k = 7
    · subst h7
      have e : passes p.flds (.mk 7 nm v lo hi l) = passAll p.flds l := by simp [passes]
      rw [e]
      exact passes_all H n w nm v lo hi L l p V F hI hL hV.one hF.one ih
    by_cases h8 : k = 8
    · subst h8
      have e : passes p.flds (.mk 8 nm v lo hi l) = passAny p.flds l := by simp [passes]
      rw [e]
      exact passes_any H n w nm v lo hi L l p V F hI hL hV.one hF.one ih
    have e : passes p.flds (.mk k nm v lo hi l) = false := by simp [passes, *]
    rw [e]
    have q : ∀ {a : Int}, ¬ k = a → (k == a) = false := fun h => by simpa using h
    exact passes_none w k nm v lo hi L p.id V F hL.one hV.one hF.one (q h1) (q h2) (q h3) (q h4) (q h5) (q h6) (q h7) (q h8)
end Go.Proofs.YteoeahmfpohpeaaDoor
