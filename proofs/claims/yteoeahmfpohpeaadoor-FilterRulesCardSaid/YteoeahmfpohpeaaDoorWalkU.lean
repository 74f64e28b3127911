/- Walks: lodestarlaw16.not and the statement's function FilterParts. -/
import Derived.Test.YteoeahmfpohpeaaDoorPureH
import Derived.Test.YteoeahmfpohpeaaDoorWalkR
namespace Go.Proofs.YteoeahmfpohpeaaDoor
open Go.RowKit Go.Shelf
set_option maxRecDepth 100000
set_option linter.unusedVariables false
set_option linter.unusedSimpArgs false

theorem RC.mono {H H' : PH} (hle : Le H H') : ∀ {n : Nat} {c : Cond} {cs : List Value}, RC H n c cs → RC H' n c cs
  | 0, _, _, h => h.elim
  | n + 1, .mk k nm v lo hi l, cs, h => by
    obtain ⟨L, e, hL⟩ := h
    exact ⟨L, e, hL.mono hle (fun _ _ _ h => RC.mono hle h)⟩
def notC (c : Cond) : Cond := .mk 6 ⟨#[]⟩ Val.zero 0 0 [c]
theorem passes_notC (c : Cond) (fl : List Fld) : passes fl (notC c) = !passes fl c := by simp [notC, passes, passAny]

set_option maxHeartbeats 1000000 in
theorem not_calls (H : PH) (n : Nat) (w : World) (c : Cond) (cs : List Value) (hI : In H w) (hc : RC H n c cs) :
    Calls Tryd.prog 11 #[.agg cs.toArray] w fun e w' => (∃ A0 m0 c0, e = .returned (.agg (cCells 6 ⟨#[]⟩ Val.zero 0 0 (.slice A0 m0 c0)).toArray) ∧ RC (hp w') (n + 1) (notC c) (cCells 6 ⟨#[]⟩ Val.zero 0 0 (.slice A0 m0 c0))) ∧ Below w.heap.size w w' := by
  have HC := Lib.hid hc
  obtain ⟨k0, nm, v0, lo, hi, A0, m0, c0, rfl⟩ := hc.form
  clear hc
  go_enter Tryd.func11, Tryd.ntmps11
  go_wp2
  have HB : Below w.heap.size w (((w.alloc (.cells (cCells k0 nm v0 lo hi (.slice A0 m0 c0)).toArray 26)).alloc (.cells (cCells 6 ⟨#[]⟩ Val.zero 0 0 (.slice (some ⟨w.heap.size + 1 + 1, 0, none⟩) 1 1)).toArray 26)).alloc (.cells (cCells k0 nm v0 lo hi (.slice A0 m0 c0)).toArray 26)) := by repeat (first | exact Below.refl _ _ | refine below_allocS ?_ _)
  have hblk : hp (((w.alloc (.cells (cCells k0 nm v0 lo hi (.slice A0 m0 c0)).toArray 26)).alloc (.cells (cCells 6 ⟨#[]⟩ Val.zero 0 0 (.slice (some ⟨w.heap.size + 1 + 1, 0, none⟩) 1 1)).toArray 26)).alloc (.cells (cCells k0 nm v0 lo hi (.slice A0 m0 c0)).toArray 26)) (w.heap.size + 1 + 1) = some (.cells (cCells k0 nm v0 lo hi (.slice A0 m0 c0)).toArray 26) :=
    allocs_get [.cells (cCells k0 nm v0 lo hi (.slice A0 m0 c0)).toArray 26, .cells (cCells 6 ⟨#[]⟩ Val.zero 0 0 (.slice (some ⟨w.heap.size + 1 + 1, 0, none⟩) 1 1)).toArray 26, .cells (cCells k0 nm v0 lo hi (.slice A0 m0 c0)).toArray 26] w 2 _ rfl
  refine bodyPost_ret (v := .agg (cCells 6 ⟨#[]⟩ Val.zero 0 0 (.slice (some ⟨w.heap.size + 1 + 1, 0, none⟩) 1 1)).toArray) (by simp [results, Tryd.results11, go_sem, cCells, Val.zero]) rfl ⟨⟨_, _, _, rfl, ?_⟩, HB⟩
  exact ⟨_, rfl, _, _, rfl, by simp, Sl.flat (css := [cCells k0 nm v0 lo hi (.slice A0 m0 c0)]) (.cons ⟨HC.out.mono (hI.below HB), rfl⟩ .nil) (by simp) (by rw [List.flatten_cons, List.flatten_nil, List.append_nil]; exact hblk)⟩

theorem Tryd.infoPt : (Tryd.prog.info? 37).map (fun i => (i.zero, i.size, i.bytes)) = some (some (.agg #[.int .i64 0, .slice none 0 0, .slice none 0 0]), 3, 56) := by kernel_rfl
theorem Each.snoc {α : Type} {R : α → List Value → Prop} {sz : Nat} {xs : List α} {css : List (List Value)} (h : Each R sz xs css) {x : α} {c : List Value} (hx : R x c) (hc : c.length = sz) : Each R sz (xs ++ [x]) (css ++ [c]) := by
  induction h with
  | nil => exact .cons ⟨hx, hc⟩ .nil
  | cons h1 _ ih => exact .cons h1 ih
/-- Two values, each with a row of its own, not the same. -/
def Apart (a b : Value) : Prop := b.ownBlock = none ∨ b.ownBlock ≠ a.ownBlock
theorem Apart.next {W W3 : World} {v5 v6 : Value} {base g5 g6 n m c5 c6 : Nat} {e e' : TypeId} {sz sz' n' m' : Nat} {xs ys : List Value} (h : Apart v5 v6) (h6 : W.ownsRow base e sz v6 n xs) (h5' : W3.ownsRow base e' sz' (.slice (some ⟨g5, 0, none⟩) m c5) n' ys) (h5 : some g5 = v5.ownBlock ∨ W.heap.size ≤ g5) (hg : some g6 = v6.ownBlock ∨ W3.heap.size ≤ g6) :
    Apart (.slice (some ⟨g5, 0, none⟩) m c5) (.slice (some ⟨g6, 0, none⟩) m' c6) := by
  right
  simp only [Value.ownBlock]
  intro e
  injection e with e
  subst e
  have hlt := (h5'.lt g6 (by simp [Value.ownBlock])).2
  rcases hg with hg | hg
  · rcases h with h | h
    · rw [h] at hg; cases hg
    · rcases h5 with h5 | h5
      · exact h (hg.symm.trans h5)
      · have := (h6.lt g6 hg.symm).2
        omega
  · omega

theorem Apart.side {W : World} {v5 v6 : Value} {base g5 n m c5 : Nat} {e : TypeId} {sz : Nat} {xs : List Value} (h : Apart v5 v6) (h6 : W.ownsRow base e sz v6 n xs) (h5 : some g5 = v5.ownBlock ∨ W.heap.size ≤ g5) :
    (Value.slice (some ⟨g5, 0, none⟩) m c5).ownBlock = none ∨ (Value.slice (some ⟨g5, 0, none⟩) m c5).ownBlock ≠ v6.ownBlock := by
  right
  show ¬ (some g5 = v6.ownBlock)
  intro e
  rcases h with h | h
  · rw [h] at e; cases e
  · rcases h5 with h5 | h5
    · exact h (e.symm.trans h5)
    · have := (h6.lt g5 e.symm).2
      omega
theorem parts_pure (c : Cond) (l : List Pt) (h : (l.map (·.id)).Nodup) : ∃ X Y : List Int, X = insAll (hits c l) [] ∧ Y = insAll (hits (notC c) l) [] ∧ (both (insAll X []) (insAll Y [])).length = 0 ∧ insAll Y (insAll X []) = insAll (l.map (·.id)) [] ∧ X.length + Y.length = l.length := by
  refine ⟨_, _, rfl, rfl, ?_, ?_, ?_⟩
  · rw [parts_inter (passes_notC c) h]; rfl
  · exact parts_union (passes_notC c)
  · have := parts_length (passes_notC c) h
    rwa [List.length_map] at this
theorem box8 {W : World} {b : Nat} {a0 a1 a2 a3 a4 a5 a6 a7 : Value} (h : Blk W b [a0, a1, a2, a3, a4, a5, a6, a7]) : W.cell? ⟨b, 0, none⟩ = some a0 ∧ W.cell? ⟨b, 1, none⟩ = some a1 ∧ W.cell? ⟨b, 2, none⟩ = some a2 ∧ W.cell? ⟨b, 3, none⟩ = some a3 ∧ W.cell? ⟨b, 4, none⟩ = some a4 ∧ W.cell? ⟨b, 5, none⟩ = some a5 ∧ W.cell? ⟨b, 6, none⟩ = some a6 ∧ W.cell? ⟨b, 7, none⟩ = some a7 :=
  ⟨h.cell 0 rfl, h.cell 1 rfl, h.cell 2 rfl, h.cell 3 rfl, h.cell 4 rfl, h.cell 5 rfl, h.cell 6 rfl, h.cell 7 rfl⟩
theorem hp_of_plus {w w' : World} (hb : Below w.heap.size w w') : Le (plus noPH w w') (hp w') := In.plus (fun b o h => by cases h) hb

set_option maxHeartbeats 4000000 in
theorem law_parts (H : PH) (n : Nat) (w : World) (c : Cond) (cs : List Value) (l : List Pt) (A : Option Addr) (cap : Nat) (hI : In H w) (hc : RC H n c cs) (hl : Sl (RPt H) 3 H A l) (hb : l.length * 56 ≤ 140737488351232) :
    Calls Tryd.prog 5 #[.agg cs.toArray, .slice A l.length cap] w fun e w' => e = .returned (.bool true) ∧ Below w.heap.size w w' := by
  have hm := hl.le
  have HCc := Lib.hid hc
  obtain ⟨k0, nm, v0, lo, hi, A0, m0, c0, rfl⟩ := hc.form
  go_enter Tryd.func5, Tryd.ntmps5
  go_wp2
  have HB0 := below_allocS (Below.refl w.heap.size w) (.cells (cCells k0 nm v0 lo hi (.slice A0 m0 c0)).toArray 26)
  have K0 := Blk.new w (cCells k0 nm v0 lo hi (.slice A0 m0 c0)) 26
  go_loopw [5, 6, 7] (fun v5 v6 v7 W => ∃ (k : Nat) (css : List (List Value)), k ≤ l.length ∧ v7 = .int .i64 k ∧ Each (RPt H) 3 (firsts (l.take k)) css ∧ W.ownsRow (w.heap.size + 1) 3 1 v5 (firsts (l.take k)).length (((firsts (l.take k)).map (·.id)).map (Value.int .i64)) ∧ W.ownsRow (w.heap.size + 1) 37 3 v6 (firsts (l.take k)).length css.flatten ∧ Apart v5 v6 ∧ Blk W w.heap.size (cCells k0 nm v0 lo hi (.slice A0 m0 c0)) ∧ Below w.heap.size w W) (fun _ _ v7 _ => l.length - (intOf v7).toNat)
  case atStart => exact ⟨0, [], by omega, rfl, .nil, World.ownsRow_nil _ _ _ _, World.ownsRow_nil _ _ _ _, .inl rfl, K0, HB0⟩
  case round =>
    obtain ⟨k, css, hk, rfl, HE, HO, HP, HA, HK, HB⟩ := hrel
    clear HB0 K0
    have HO' := Lib.hid HO
    have HP' := Lib.hid HP
    have HA' := Lib.hid HA
    have HE' := Lib.hid HE
    have hfl := firsts_length_le (l.take k)
    have hle2 : (l.take k).length ≤ k := List.length_take_le _ _
    have hxl : ((firsts (l.take k)).map (·.id)).length = (firsts (l.take k)).length := List.length_map _
    obtain ⟨A5, c5, hv5, _, _, hs5⟩ := own_reads HO (by omega)
    obtain ⟨A6, c6, hv6, _⟩ := own_slice HP
    clear HO HP HA HE
    subst hv5 hv6
    by_cases hlt : k < l.length
    · obtain ⟨b, off, ps, rfl, hR, hcell⟩ := hl.get hlt
      have hR' := Lib.hid hR
      obtain ⟨A1, n1, c1, A2, n2, c2, rfl⟩ := hR.form
      have hc0 := rdW0 hI HB (hcell 0 _ rfl)
      have hc1 := rdW hI HB (hcell 1 _ rfl)
      have hc2 := rdW hI HB (hcell 2 _ rfl)
      have hsucc := Lib.hid (firsts_succ hlt)
      have hcall0 := fun W hW => has_calls (hp wr) W A5 c5 _ l[k].id hW hs5
      rw [hxl] at hcall0
      have hcall := Lib.hid hcall0
      clear hcall0
      clear hs5 hR
      cases hpk : decide (l[k].id ∈ (firsts (l.take k)).map (·.id))
      · have hrb5 := fun k hk => own_base HO'.out k hk
        have hrb6 := fun k hk => own_base HP'.out k hk
        have hss := HB.size
        have hkl := HK.lt
        have mk1 := Lib.hid True.intro
        go_wp2_with (first
          | (go_at_call 14; go_must (refine (hcall.out _ (In.hp wr)).mono ?_; rintro e w2 ⟨rfl, hw⟩; have hw' := hw.symm; subst hw'; rw [hpk]))
          | (at_builtin; clear mk1; go_must (refine app_new (W := wr) (w.heap.size + 1) rfl (.tmp 24) (.tmp 30) 29 3 (.int .i64 0) 1 8 rfl Tryd.underlying29 Tryd.infoInt rfl (by decide) (by decide) _ _ _ [.int .i64 l[k].id] rfl rfl rfl (by simp [Value.oneCell']) HO'.out (by omega) (by omega) ?_; intro g5 cap5 w3 hown5 hg5 hat5; have HR5 := Lib.hid hown5; have hg5' := Lib.hid hg5; have hat5' := Lib.hid hat5; have HB3 : Below w.heap.size w w3 := HB.grown hg5 HB.size (fun k hk => by have := hrb5 k hk; omega); have HP3 := Lib.hid (HP'.out.kept hg5 HA'.out); have hz3 := hg5.size; have hd0 := rdW0 hI HB3 (hcell 0 _ rfl); have hd1 := rdW hI HB3 (hcell 1 _ rfl); have hd2 := rdW hI HB3 (hcell 2 _ rfl); clear hown5 hg5 hat5))
          | (at_builtin; go_must (refine app_new (W := w3) (w.heap.size + 1) rfl (.tmp 32) (.tmp 37) 27 37 (.agg #[.int .i64 0, .slice none 0 0, .slice none 0 0]) 3 56 rfl Tryd.underlying27 Tryd.infoPt rfl (by decide) (by decide) _ _ _ [.int .i64 l[k].id, .slice A1 n1 c1, .slice A2 n2 c2] rfl rfl rfl (by simp [Value.oneCell']) HP3.out (by omega) (by omega) ?_; intro g6 cap6 w4 hown6 hg6 hat6; have HR6 := Lib.hid hown6; have hg6' := Lib.hid hg6; have hat6' := Lib.hid hat6; clear hown6 hg6 hat6)))
        go_roundw
        case rel =>
          refine ⟨k + 1, css ++ [[.int .i64 l[k].id, .slice A1 n1 c1, .slice A2 n2 c2]], by omega, by go_num, ?_, ?_, ?_, HA'.out.next HP'.out HR5.out hat5'.out hat6'.out, (HK.grown hg5'.out (fun k hk => by have := hrb5 k hk; omega)).grown hg6'.out (fun k hk => by have := hrb6 k hk; omega), HB3.grown hg6'.out HB3.size (fun k hk => by have := hrb6 k hk; omega)⟩
          · rw [hsucc.out, hpk]; simp only [Bool.false_eq_true, if_false]; exact HE'.out.snoc hR'.out rfl
          · rw [hsucc.out, hpk]; simp only [Bool.false_eq_true, if_false]
            have := HR5.out.kept hg6'.out (HA'.out.side HP'.out hat5'.out)
            simpa using this
          · rw [hsucc.out, hpk]; simp only [Bool.false_eq_true, if_false]
            have := HR6.out
            simpa using this
        case measure => simp [intOf]; omega
      · go_wp2_with (go_at_call 14; go_must (refine (hcall.out _ (In.hp wr)).mono ?_; rintro e w2 ⟨rfl, hw⟩; have hw' := hw.symm; subst hw'; rw [hpk]))
        go_roundw
        case rel =>
          refine ⟨k + 1, css, by omega, by go_num, ?_, ?_, ?_, HA'.out, HK, HB⟩
          · rw [hsucc.out, hpk]; exact HE'.out
          · rw [hsucc.out, hpk]; exact HO'.out
          · rw [hsucc.out, hpk]; exact HP'.out
        case measure => simp [intOf]; omega
    · obtain rfl : k = l.length := by omega
      rw [List.take_length] at HO' HP' HE' hfl hxl hs5
      have hHW : Le H (hp wr) := hI.below HB
      have hRC := HCc.out.mono hHW
      have hs6 : Sl (RPt (hp wr)) 3 (hp wr) A6 (firsts l) := by
        obtain ⟨A', c', e, _, h⟩ := own_Sl (H := H) (w := w) (R := RPt H) HP'.out (by omega) rfl (by omega) (flat_get HE'.out)
        cases e
        exact h.mono (In.plus hI HB) (fun _ _ _ h => RPt.mono hHW h)
      obtain ⟨X, Y, hX, hY, p1, p2, p3⟩ := parts_pure c (firsts l) (firsts_nodup l)
      have kA : Hid (∀ W, In (hp wr) W → Calls Tryd.prog 7 #[.agg (cCells k0 nm v0 lo hi (.slice A0 m0 c0)).toArray, .slice A6 (firsts l).length c6] W fun e w' => ∃ A8 c8, e = .returned (.slice A8 X.length c8) ∧ Sl RI 1 (hp w') A8 X ∧ Below W.heap.size W w') := Lib.hid (fun W hW => by
        refine (fids_calls (hp wr) n W c _ (firsts l) A6 c6 hW hRC hs6 (by omega)).mono ?_
        rintro e w' ⟨v, rfl, hv, hb⟩
        rw [← hX] at hv
        obtain ⟨A8, c8, rfl, _, h⟩ := hv
        exact ⟨A8, c8, rfl, h.mono (hp_of_plus hb) (fun _ _ _ h => h), hb⟩)
      have kB : Hid (∀ w2 cs', RC (hp w2) (n + 1) (notC c) cs' → Below wr.heap.size wr w2 → Calls Tryd.prog 7 #[.agg cs'.toArray, .slice A6 (firsts l).length c6] w2 fun e w' => ∃ A8 c8, e = .returned (.slice A8 Y.length c8) ∧ Sl RI 1 (hp w') A8 Y ∧ Below w2.heap.size w2 w') := Lib.hid (fun w2 cs' hcs' hb2 => by
        have hle : Le (hp wr) (hp w2) := (In.hp wr).below hb2
        refine (fids_calls (hp w2) (n + 1) w2 (notC c) _ (firsts l) A6 c6 (In.hp _) hcs' (hs6.mono hle (fun _ _ _ h => RPt.mono hle h)) (by omega)).mono ?_
        rintro e w' ⟨v, rfl, hv, hb⟩
        rw [← hY] at hv
        obtain ⟨A8, c8, rfl, _, h⟩ := hv
        exact ⟨A8, c8, rfl, h.mono (hp_of_plus hb) (fun _ _ _ h => h), hb⟩)
      have kN := Lib.hid (fun W hW => not_calls (hp wr) n W c _ hW hRC)
      have hkl := HK.lt
      have q0 := HK.cell 0 rfl
      have q1 := HK.cell 1 rfl
      have q2 := HK.cell 2 rfl
      have q3 := HK.cell 3 rfl
      have q4 := HK.cell 4 rfl
      have q5 := HK.cell 5 rfl
      have q6 := HK.cell 6 rfl
      have q7 := HK.cell 7 rfl
      have HS5 := Lib.hid hs5
      have P2 := Lib.hid p2
      have P1 := Lib.hid p1
      have hRC' := Lib.hid hRC
      have mk1 := Lib.hid True.intro
      clear hs6 hX hY p2 p1 hs5 hRC hc HE' HP' HA' HO'
      go_wp2
      go_region_held3 (fun w' => w'.cell? ⟨w.heap.size, 0, none⟩ = some (.int .i64 k0) ∧ w'.cell? ⟨w.heap.size, 1, none⟩ = some (.string nm) ∧ w'.cell? ⟨w.heap.size, 2, none⟩ = some (.int .i64 v0.kind) ∧ w'.cell? ⟨w.heap.size, 3, none⟩ = some (.int .i64 v0.n) ∧ w'.cell? ⟨w.heap.size, 4, none⟩ = some (.string v0.text) ∧ w'.cell? ⟨w.heap.size, 5, none⟩ = some (.int .i64 lo) ∧ w'.cell? ⟨w.heap.size, 6, none⟩ = some (.int .i64 hi) ∧ w'.cell? ⟨w.heap.size, 7, none⟩ = some (.slice A0 m0 c0)) (first | exact box8 (HK.below HB3) | exact box8 (HK.below HB2) | exact box8 (HK.below HB1) | exact box8 HK | go_keep)
        (first
          | (go_at_call 7; clear mk1; refine (kA.out _ ((In.hp wr).below (by repeat (first | exact Below.refl _ _ | refine Below.drew ?_)))).mono ?_; rintro e w1 ⟨A8, c8, rfl, hs8, hb1⟩; obtain ⟨hc1, hf1⟩ := bcell hb1; have HB1 : Below wr.heap.size wr w1 := below_step hb1 (by repeat (first | exact Below.refl _ _ | refine Below.drew ?_)); have hz1 : w.heap.size < w1.heap.size := Nat.lt_of_lt_of_le hkl HB1.size; have HS8 := Lib.hid hs8; clear hs8)
          | (go_at_call 11; refine (kN.out _ ((In.hp wr).below HB1)).mono ?_; rintro e w2 ⟨⟨A9, m9, c9, rfl, hnc⟩, hb2⟩; obtain ⟨hc2, hf2⟩ := bcell hb2; have HB2 : Below wr.heap.size wr w2 := below_step hb2 HB1; have hz2 : w.heap.size < w2.heap.size := Nat.lt_of_lt_of_le hz1 hb2.size; have HNC := Lib.hid hnc; clear hnc; have hb2' := Lib.hid hb2; clear hb2)
          | (go_at_call 7; refine (kB.out _ _ HNC.out HB2).mono ?_; rintro e w3 ⟨A10, c10, rfl, hs10, hb3⟩; obtain ⟨hc3, hf3⟩ := bcell hb3; have HB3 : Below wr.heap.size wr w3 := below_step hb3 HB2; have hz3 : w.heap.size < w3.heap.size := Nat.lt_of_lt_of_le hz2 hb3.size; have HS10 := Lib.hid hs10; clear hs10; have hb3' := Lib.hid hb3; clear hb3))
      have hs8 : Sl RI 1 (hp w3) A8 X := HS8.out.mono ((In.hp _).below (below_step hb3'.out hb2'.out)) (fun _ _ _ h => h)
      have hs5 : Sl RI 1 (hp w3) A5 ((firsts l).map (·.id)) := HS5.out.mono ((In.hp _).below HB3) (fun _ _ _ h => h)
      have hlI : X.length ≤ (firsts l).length := by omega
      have hlJ : Y.length ≤ (firsts l).length := by omega
      have kI : Hid (∀ W, In (hp w3) W → Calls Tryd.prog 15 #[.slice A8 X.length c8, .slice A10 Y.length c10] W fun e w' => (∃ A' c', e = .returned (.slice A' 0 c')) ∧ Below W.heap.size W w') := Lib.hid (fun W hW => by
        refine (inter_calls (hp w3) W A8 A10 c8 c10 X Y hW hs8 HS10.out (by omega)).mono ?_
        rintro e w' ⟨A', c', rfl, hb⟩
        exact ⟨⟨A', c', by rw [P1.out]⟩, hb⟩)
      have kU : Hid (∀ W, In (hp w3) W → Calls Tryd.prog 16 #[.slice A8 X.length c8, .slice A10 Y.length c10] W fun e w' => ∃ A' c', e = .returned (.slice A' (insAll ((firsts l).map (·.id)) []).length c') ∧ Sl RI 1 (hp w') A' (insAll ((firsts l).map (·.id)) []) ∧ Below W.heap.size W w') := Lib.hid (fun W hW => by
        refine (runion_calls (hp w3) W A8 A10 c8 c10 X Y hW hs8 HS10.out (by omega)).mono ?_
        rintro e w' ⟨v', rfl, ho, hb⟩
        rw [P2.out] at ho
        have hil := insAll_length_le ((firsts l).map (·.id)) []
        rw [List.length_map] at hil
        simp only [List.length_nil] at hil
        obtain ⟨A', c', rfl, _, _, h⟩ := own_reads ho (by omega)
        exact ⟨A', c', rfl, h, hb⟩)
      have kS : Hid (∀ W, In (hp w3) W → Calls Tryd.prog 17 #[.slice A5 (firsts l).length c5] W fun e w' => ∃ A' c', e = .returned (.slice A' (insAll ((firsts l).map (·.id)) []).length c') ∧ Sl RI 1 (hp w') A' (insAll ((firsts l).map (·.id)) []) ∧ Below W.heap.size W w') := Lib.hid (fun W hW => by
        have h0 := rset_calls (hp w3) W A5 c5 ((firsts l).map (·.id)) hW hs5 (by rw [List.length_map]; omega)
        rw [List.length_map] at h0
        refine h0.mono ?_
        rintro e w' ⟨v', rfl, ho, hb⟩
        have hil := insAll_length_le ((firsts l).map (·.id)) []
        rw [List.length_map] at hil
        simp only [List.length_nil] at hil
        obtain ⟨A', c', rfl, _, _, h⟩ := own_reads ho (by omega)
        exact ⟨A', c', rfl, h, hb⟩)
      have kQ : Hid (∀ W (A' B' : Option Addr) (c' d' : Nat), Sl RI 1 (hp W) A' (insAll ((firsts l).map (·.id)) []) → Sl RI 1 (hp W) B' (insAll ((firsts l).map (·.id)) []) → Calls Tryd.prog 6 #[.slice A' (insAll ((firsts l).map (·.id)) []).length c', .slice B' (insAll ((firsts l).map (·.id)) []).length d'] W fun e w' => e = .returned (.bool true) ∧ Below W.heap.size W w') := Lib.hid (fun W A' B' c' d' h1 h2 => by
        refine (same08_calls (hp W) W A' B' c' d' _ _ (In.hp _) h1 h2).mono ?_
        rintro e w' ⟨rfl, hb⟩
        exact ⟨by rw [decide_eq_true rfl], hb⟩)
      have hsum : (((X.length : Int) + (Y.length : Int)) == ((firsts l).length : Int)) = true := by simp only [beq_iff_eq]; omega
      have hwr : IntKind.i64.wrap ((X.length : Int) + (Y.length : Int)) = (X.length : Int) + (Y.length : Int) := IntWalk.i64_in _ (by omega)
      have HB3' := Lib.hid HB3
      clear hs8 hs5 HB1 HB2 HB3 hc1 hc2 hc3 hf1 hf2 hf3
      go_wp2_with (first
        | (go_at_call 15; go_must (refine (kI.out _ (In.hp w3)).mono ?_; rintro e w4 ⟨⟨A', c', rfl⟩, hb4⟩; have HX4 := Lib.hid hb4; clear hb4))
        | (go_at_call 16; go_must (refine (kU.out _ ((In.hp w3).below HX4.out)).mono ?_; rintro e w5 ⟨A11, c11, rfl, hs11, hb5⟩; have HX5 := Lib.hid (below_step hb5 HX4.out); have HS11 := Lib.hid hs11; clear hs11 hb5))
        | (go_at_call 17; go_must (refine (kS.out _ ((In.hp w3).below HX5.out)).mono ?_; rintro e w6 ⟨A12, c12, rfl, hs12, hb6⟩; have HX6 := Lib.hid (below_step hb6 HX5.out); have HS12 := Lib.hid hs12; have hb6' := Lib.hid hb6; clear hs12 hb6))
        | (go_at_call 6; go_must (refine (kQ.out _ _ _ _ _ (HS11.out.mono ((In.hp _).below hb6'.out) (fun _ _ _ h => h)) HS12.out).mono ?_; rintro e w7 ⟨rfl, hb7⟩; have HX7 := Lib.hid (below_step hb7 HX6.out); clear hb7))
        | (go_at_call 9; go_must (refine (sure_calls _).mono ?_; rintro e w8 ⟨rfl, hb8⟩; have HX8 := Lib.hid (below_step hb8 HX7.out); clear hb8)))
      go_ret
      exact ⟨rfl, below_step (below_step HX8.out HB3'.out) HB⟩
end Go.Proofs.YteoeahmfpohpeaaDoor
