/- Walks: ids.some and ids.Union at an empty second list. -/
import Derived.Test.YteoeahmfpohpeaaDoorWalkH
namespace Go.Proofs.YteoeahmfpohpeaaDoor
open Go.RowKit Go.Shelf
attribute [local go_sem] Oper.semAt_some
set_option maxRecDepth 100000
set_option linter.unusedVariables false
set_option linter.unusedSimpArgs false

theorem all_stops (n n₁ n₂ b1 b2 : Nat) (hn : 1 ≤ n) (w0 w1 : World) (ys : List Int) (v1 v2 : Value) (h1 : Blk w1 b1 [v1]) (h2 : Blk w1 b2 [v2]) (hn1 : n₁ = w0.heap.size) (hn2 : n₂ = w1.heap.size) (hb1 : n₁ ≤ b1) (hb2 : n₁ ≤ b2)
    (hv1 : RSl RI 1 (plus noPH w0 w1) ys v1) (hv2 : RSl RI 1 (plus noPH w0 w1) [] v2) (hm : ys.length ≤ 17592186044416) :
    SeqStopsK Fence.wide n Tryd.prog 47 #[.pointer (some ⟨b1, 0, none⟩), .pointer (some ⟨b2, 0, none⟩)] (fun x : Int => #[Value.int .i64 x, Value.int .i64 1]) (KeepMid n₁ n₂) (fun xs => xs = ys) (fun _ => True) ys.length w1 := fun l J Jx W hW hJ hJx hY h0 => by
  obtain ⟨A, c, rfl, _, hs⟩ := hv1
  obtain ⟨A2, c2, rfl, _, _⟩ := hv2
  have k1 := h1.lt
  have k2 := h2.lt
  refine (all1_in n hn l n₁ n₂ b1 b2 A A2 c c2 ys J Jx hm (fun pre W n h => hJ pre W _ none h ⟨rfl, rfl, rfl, Nat.le_refl _, fun _ _ _ => rfl⟩ (fun r e => by cases e)) hY W hb1 (by omega) hb2 (by omega) ((hW.cell (p := ⟨b1, 0, none⟩) k1).trans (h1.cell 0 rfl)) ((hW.cell (p := ⟨b2, 0, none⟩) k2).trans (h2.cell 0 rfl)) (fun j hj => ?_) h0).mono ?_
  · obtain ⟨b, off, e, hc⟩ := hs.get1 hj
    refine ⟨b, off, e, ?_⟩
    unfold cellH plus at hc
    by_cases hlt : b < w0.heap.size
    · rw [if_pos hlt] at hc; cases hc
    · rw [if_neg hlt] at hc
      have hcw : w1.cell? ⟨b, off + j, none⟩ = some (.int .i64 ys[j]) := by
        unfold World.cell?
        split at hc
        · rename_i c' e' fr' hh; rw [hh]; exact hc
        · cases hc
      have hbl := World.block_lt_of_cell? w1 _ hcw
      exact ⟨by omega, by rw [hn2]; exact hbl, (hW.cell (p := ⟨b, off + j, none⟩) hbl).trans hcw⟩
  · rintro e W' ⟨he, hj | ⟨k, hk, hj⟩⟩
    · exact ⟨he, .inl ⟨_, rfl, hj⟩⟩
    · exact ⟨he, .inr ⟨_, trivial, hj⟩⟩

theorem KeepMid.grown {n₁ n₂ : Nat} {A B : World} {row : Option Nat} (hg : A.grownBy B row) (h2 : n₂ ≤ A.heap.size) (hr : ∀ k, row = some k → n₂ ≤ k) : KeepMid n₁ n₂ A B := fun k h1 hk => hg.block k (by omega) (fun e => by have := hr k e.symm; omega)
theorem KeepMid.setCell {n₁ n₂ : Nat} {A : World} {a : Addr} (ha : a.block < n₁) (v : Value) : KeepMid n₁ n₂ A (A.setCell a v) := fun k h1 hk => Below.heap_setCell A a v k (by omega)

theorem ownsRow_low {W : World} {base base' : Nat} {e : TypeId} {size : Nat} {v : Value} {k : Nat} {xs : List Value} (h : W.ownsRow base e size v k xs) (hb : base' ≤ base) : W.ownsRow base' e size v k xs := by
  refine ⟨h.1, ?_⟩
  rcases h.2 with hn | ⟨g, cap, cur, hv, hbg, rest⟩
  · exact .inl hn
  · exact .inr ⟨g, cap, cur, hv, Nat.le_trans hb hbg, rest⟩
set_option maxHeartbeats 2000000 in
theorem some_calls (H : PH) (w : World) (A : Option Addr) (c : Nat) (xs : List Int) (bw : Nat) (hI : In H w) (hl : Sl RI 1 H A xs) (hb : xs.length * 8 ≤ 140737488355328) (hbw : Blk w bw [.int .i64 1, .int .i64 2, .int .i64 3]) :
    Calls Tryd.prog 29 #[.slice A xs.length c, .slice none 0 0, .slice (some ⟨bw, 0, none⟩) 3 3] w fun e w' => ∃ v', e = .returned v' ∧ RSl RI 1 (plus noPH w w') (insAll xs []) v' ∧ Below w.heap.size w w' := by
  refine (callsIn_wide (n := 5)).1 ?_
  refine callsIn_of_wp_marks Tryd.func29 rfl trivial ?_ rfl
  simp only [Tryd.ntmps29, List.size_toArray, List.length_cons, List.length_nil, Nat.reduceAdd, Nat.reduceSub, Array.replicate_succ, Array.replicate_zero, List.push_toArray, List.append_toArray, List.nil_append, List.cons_append]
  gi_wp2_with fail
  have B0 := Boxed.new w 29 (.slice (some ⟨bw, 0, none⟩) 3 3)
  have B1 := Boxed.new (w.alloc (.cells #[.slice (some ⟨bw, 0, none⟩) 3 3] 29)) 29 (.slice none 0 0)
  have HB0 := below_allocS (below_allocS (Below.refl w.heap.size w) (.cells #[.slice (some ⟨bw, 0, none⟩) 3 3] 29)) (.cells #[.slice none 0 0] 29)
  refine ⟨trivial, ?_⟩
  refine (callsIn_wide.2 (all_calls H _ A c xs (hI.below HB0) hl hb)).mono ?_
  rintro e w1 ⟨b1, b2, v1, v2, rfl, hb1, k1, k2, hk1, hk2, hv1, hv2⟩
  have W2 : (w.alloc (.cells #[.slice (some ⟨bw, 0, none⟩) 3 3] 29)).alloc (.cells #[.slice none 0 0] 29) = (w.alloc (.cells #[.slice (some ⟨bw, 0, none⟩) 3 3] 29)).alloc (.cells #[.slice none 0 0] 29) := rfl
  have hsz0 : ((w.alloc (.cells #[.slice (some ⟨bw, 0, none⟩) 3 3] 29)).alloc (.cells #[.slice none 0 0] 29)).heap.size = w.heap.size + 2 := by simp
  have B0' : Boxed w1 w.heap.size 29 (.slice (some ⟨bw, 0, none⟩) 3 3) := (hb1.block _ (by rw [hsz0]; omega)).trans (B0.alloc _)
  rw [World.size_alloc] at B1
  have B1' : Boxed w1 (w.heap.size + 1) 29 (.slice none 0 0) := (hb1.block _ (by rw [hsz0]; omega)).trans B1
  have HB1 := below_step hb1 HB0
  have hz1 : w.heap.size + 2 ≤ w1.heap.size := by have := hb1.size; rw [hsz0] at this; exact this
  have hyl := insAll_length_le xs []
  simp only [List.length_nil, Nat.add_zero] at hyl
  obtain ⟨i0, hi, hz0, hz1', hz2⟩ := info_parts Tryd.infoInt
  clear B0 B1 W2
  gi_wp2_with fail
  refine wpIn_rangeFunc_ownG rfl (by omega) (gf := 47) (lb := #[.pointer (some ⟨b1, 0, none⟩), .pointer (some ⟨b2, 0, none⟩)]) rfl trivial (enters_of Tryd.func47 (by kernel_rfl) rfl)
    (all_stops 4 (w.heap.size + 2) w1.heap.size b1 b2 (by omega) _ w1 (insAll xs []) v1 v2 k1 k2 hsz0.symm rfl (by rw [hsz0] at hk1; exact hk1) (by rw [hsz0] at hk2; exact hk2) hv1 hv2 (by omega)) KeepMid.trans
    (fun W l o o' h1 h2 h3 h4 => KeepMid.grown (grownBy_putObj' W l o') (Nat.le_trans h1 (Nat.le_of_lt (Array.getElem?_eq_some_iff.1 h2).1)) (fun k hk => by cases hk; exact h1)) (Below.refl _ _) (fun _ => rfl)
    (fun pre W => (∃ v, Boxed W (w.heap.size + 1) 29 v ∧ W.ownsRow w1.heap.size 3 1 v pre.length (pre.map (Value.int .i64)) ∧ True) ∧ Boxed W w.heap.size 29 (.slice (some ⟨bw, 0, none⟩) 3 3) ∧ Below w.heap.size w W ∧ w1.heap.size ≤ W.heap.size)
    (fun _ _ _ => False)
    (OwnFrom.and (Own.from (holdsRow_own _ _ _ _ 1 _ _ _) _) (OwnFrom.and (Own.from (boxed_own _ _ _) _) (OwnFrom.and (ownFrom_below (Nat.le_refl _) (by omega)) (fun _ _ _ _ hs hg _ => Nat.le_trans hs hg.size))))
    (fun _ _ _ _ _ hs _ _ => hs)
    ⟨⟨_, B1', World.ownsRow_nil _ _ _ _, trivial⟩, B0', HB1, Nat.le_refl _⟩
    (fun x => { tmps := #[.slice A xs.length c, .slice none 0 0, .slice (some ⟨bw, 0, none⟩) 3 3, undef, undef, .pointer (some ⟨w.heap.size, 0, none⟩), .slice none 0 0, .pointer (some ⟨w.heap.size + 1, 0, none⟩), .int .i64 x, .int .i64 1, .slice A xs.length c, .slice none 0 0, .func (.func 47) #[] #[.pointer (some ⟨b1, 0, none⟩), .pointer (some ⟨b2, 0, none⟩)], .int .i64 x, .int .i64 1, undef, undef, undef, undef, undef, undef, undef, undef], defers := [] }) ?assign ?body ?done ?stop
  case assign =>
    intro l x W K hK
    gi_wp2
    exact hK
  case body =>
    rintro l pre x W ⟨⟨v, hv, hrow, _⟩, hw, hB, hBn⟩ hlt
    have hv1 := hv.cell
    have hw1 := hw.cell
    have hww := Blk.below hbw hB
    have hcw : ∀ j, j < ([1, 2, 3] : List Int).length → W.cell? ⟨bw, 0 + j, none⟩ = some (.int .i64 (([1, 2, 3] : List Int).getD j 0)) := fun j hj => by
      rw [Nat.zero_add]
      rcases j with _ | _ | _ | j
      · exact hww.cell 0 rfl
      · exact hww.cell 1 rfl
      · exact hww.cell 2 rfl
      · simp only [List.length_cons, List.length_nil] at hj; omega
    have hct := Lib.hid (Tryd.slices_Contains_int bw 0 3 3 [1, 2, 3] 1 W (by simp) (by omega) hcw)
    clear hcw hww
    have hBd : (pre.length + 1) * 8 ≤ 140737488355328 := by omega
    gi_wp2_with fail
    refine ⟨trivial, ?_⟩
    refine (CallsIn.inRound l (callsIn_wide.2 hct.out)).mono ?_
    rintro e w' ⟨rfl, rfl⟩
    have hcon : (List.take 3 ([1, 2, 3] : List Int)).contains 1 = true := by decide
    rw [hcon]
    clear hct hcon
    gi_wp2_with (gi_at_builtin; refine wpListIn_append_own _ rfl _ _ 29 rfl w1.heap.size 3 i0 (.int .i64 0) 1 8 Tryd.underlying29 hi hz0 hz1' hz2 rfl (by decide) _ _ _ rfl (hrow.alloc _) ⟨w'.heap.size, 0, none⟩ 1 1 [.int .i64 x] rfl rfl (cell_one_new _ _ _) (by simp [Value.oneCell']) (by unfold maxLen; omega) (by omega) (by simp; omega) ?_; intro v' w3 hown' hgrow _; obtain ⟨g', cap', rfl⟩ := ownsRow_succ hown'; have hg3 := (World.grownBy_alloc w' (.cells #[.int .i64 x] 3) v.ownBlock).trans hgrow; have hne := hv.not_row (by decide) hrow; have hv3 := hv.kept hg3 hne; have hc1 := hv3.cell; have hf1 := hv3.frozen)
    have hne' := hv3.not_row (by decide) hown'
    obtain ⟨_, _, _, hk2, _⟩ := hv.appended (n₀ := w.heap.size) (by decide) (ownsRow_low hrow (by omega)) hB.size (by omega) (ownsRow_low hown' (by omega)) hgrow
    have hrb : ∀ k, v.ownBlock = some k → w1.heap.size ≤ k := fun k hk => own_base hrow k hk
    refine ⟨hk2.from _, (KeepMid.grown hg3 hBn hrb).trans (KeepMid.setCell (a := ⟨w.heap.size + 1, 0, none⟩) (by simp) _), ⟨_, hv3.set _, ?_, trivial⟩, (hw.kept hg3 (hw.not_row (by decide) hrow)).other (by omega) _, (hB.grown hg3 hB.size (fun k hk => by have := hrb k hk; omega)).setCell (p := ⟨w.heap.size + 1, 0, none⟩) (by simp) _, ?_⟩
    · have h5 := hown'.kept (grownBy_setCell' w3 (w.heap.size + 1) (.slice (some ⟨g', 0, none⟩) (pre.length + 1) cap')) (.inr (Ne.symm hne'))
      simpa using h5
    · have := hg3.size; rw [setCell_size]; omega
  case done =>
    rintro D ys W hD rfl ⟨⟨v, hv, hrow, _⟩, hw, hB, hBn⟩ hK
    obtain ⟨A5, c5, rfl, _, hc5, _⟩ := own_reads hrow (by omega)
    have hv1 := hv.cell
    gi_wp2
    refine ⟨by simp, .inl ⟨_, _, rfl, run_takeDeferred hK, ?_⟩⟩
    exact ⟨_, results_tmp rfl _ _ _, _, rfl, own_Sl1 (ownsRow_putObj hrow (.deferred none) hK rfl) (by omega) rfl (by omega), hB.trans (belowK_b (w := w) (Nat.le_refl _) W D _ _ (by omega) hK rfl rfl)⟩
  case stop =>
    rintro D c pre W _ _ h _
    exact h.elim

set_option maxHeartbeats 1000000 in
theorem union_calls (H : PH) (w : World) (A : Option Addr) (c : Nat) (xs : List Int) (hI : In H w) (hl : Sl RI 1 H A xs) (hb : xs.length * 8 ≤ 140737488355328) :
    Calls Tryd.prog 18 #[.slice A xs.length c, .slice none 0 0] w fun e w' => ∃ v', e = .returned v' ∧ RSl RI 1 (plus noPH w w') (insAll xs []) v' ∧ Below w.heap.size w w' := by
  go_enter Tryd.func18, Tryd.ntmps18
  go_wp2_with fail
  have HB0 := below_allocS (Below.refl w.heap.size w) (.cells #[.int .i64 1, .int .i64 2, .int .i64 3] 3)
  refine (some_calls H _ A c xs w.heap.size (hI.below HB0) hl hb (Blk.new w _ 3)).mono ?_
  rintro e w1 ⟨v', rfl, hv', hb1⟩
  go_wp2
  go_ret
  refine ⟨_, rfl, hv'.mono (fun b o h => ?_) (fun _ _ _ h => h), below_step hb1 HB0⟩
  unfold plus at *
  simp only [World.size_alloc] at h
  split at h
  · cases h
  · rw [if_neg (by omega)]; exact h
end Go.Proofs.YteoeahmfpohpeaaDoor
