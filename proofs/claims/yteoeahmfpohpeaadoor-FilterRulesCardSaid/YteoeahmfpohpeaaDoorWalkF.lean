/- Walks: lodestarref08.Put. -/
import Derived.Test.YteoeahmfpohpeaaDoorWalkE
import Derived.Test.YteoeahmfpohpeaaDoorPureF
import Derived.Test.YteoeahmfpohpeaaDoorLA
namespace Go.Proofs.YteoeahmfpohpeaaDoor
open Go.RowKit Go.Shelf
set_option maxRecDepth 100000
set_option linter.unusedVariables false
set_option linter.unusedSimpArgs false

theorem Tryd.infoInt : (Tryd.prog.info? 3).map (fun i => (i.zero, i.size, i.bytes)) = some (some (.int .i64 0), 1, 8) := by kernel_rfl
theorem Tryd.cellInt : (Tryd.prog.info? 3).map (·.size) = some 1 := by kernel_rfl
def LtN (xs : List Int) (n : Int) (k : Nat) : Prop := ∀ j (hj : j < xs.length), j < k → xs[j] < n
def GeN (xs : List Int) (n : Int) (k : Nat) : Prop := ∀ j (hj : j < xs.length), k ≤ j → ¬ xs[j] < n
def PutPost (w : World) (base : Nat) (v : Value) (ys : List Int) (e : Ending) (w' : World) : Prop :=
  ∃ v', e = .returned v' ∧ w'.ownsRow base 3 1 v' ys.length (ys.map (Value.int .i64)) ∧ w.grownBy w' v.ownBlock ∧ (v'.ownBlock = v.ownBlock ∨ ∃ g, v'.ownBlock = some g ∧ w.heap.size ≤ g)
theorem LtN.up {xs : List Int} {n : Int} {m : Nat} (hr : Rising xs) (hm : m < xs.length) (h : xs[m] < n) : LtN xs n (m + 1) := by
  intro j hj hjm
  rcases Nat.lt_or_ge j m with h1 | h1
  · have := (List.pairwise_iff_getElem.1 hr) j m hj hm h1; omega
  · obtain rfl : j = m := by omega
    exact h
theorem GeN.down {xs : List Int} {n : Int} {m : Nat} (hr : Rising xs) (hm : m < xs.length) (h : ¬ xs[m] < n) : GeN xs n m := by
  intro j hj hjm
  rcases Nat.eq_or_lt_of_le hjm with h1 | h1
  · subst h1; exact h
  · have := (List.pairwise_iff_getElem.1 hr) m j hm hj h1; omega

theorem put_fin {w w1 W3 : World} {base g cap : Nat} {v : Value} {cur : List Value} {ys : List Int} (HW : Wrote w1.drew W3 g cur 3) (hc : cur.take ys.length = ys.map (Value.int .i64)) (hl : cur.length = cap) (hgb : base ≤ g) (hlc : ys.length ≤ cap) (hcm : cap ≤ 9223372036854775807)
    (hg1 : w.grownBy w1 v.ownBlock) (hat : some g = v.ownBlock ∨ w.heap.size ≤ g) : PutPost w base v ys (.returned (.slice (some ⟨g, 0, none⟩) ys.length cap)) W3 := by
  refine ⟨_, rfl, own_mk hgb HW.row hlc (by unfold maxLen; omega) (by omega) (by simpa using hc), HW.grown (w1 := w1.drew) ⟨hg1.os, hg1.tape, hg1.output, hg1.size, hg1.block⟩ hat, ?_⟩
  rcases hat with h | h
  · exact .inl (by simpa [Value.ownBlock] using h)
  · exact .inr ⟨g, rfl, h⟩
set_option maxHeartbeats 2000000 in
theorem put_calls (w : World) (base : Nat) (v : Value) (xs : List Int) (n : Int) (hown : w.ownsRow base 3 1 v xs.length (xs.map (Value.int .i64))) (hbase : base ≤ w.heap.size) (hr : Rising xs) (hlen : (xs.length + 1) * 8 ≤ 140737488355328) :
    Calls Tryd.prog 20 #[v, .int .i64 n] w (PutPost w base v (ins n xs)) := by
  obtain ⟨A, c, hv, _, hcap, hx⟩ := own_reads hown (by omega)
  have HV := Lib.hid hv
  have HO := Lib.hid hown
  have HR := Lib.hid hr
  clear hown hr
  rw [hv]
  clear hv
  have hI := In.hp w
  have hm : xs.length ≤ 17592186044416 := by omega
  go_enter Tryd.func20, Tryd.ntmps20
  go_wp2
  go_loop [5, 6] (fun t5 t6 => ∃ lo hi : Nat, lo ≤ hi ∧ hi ≤ xs.length ∧ t5 = .int .i64 lo ∧ t6 = .int .i64 hi ∧ LtN xs n lo ∧ GeN xs n hi) (fun t5 t6 => (intOf t6).toNat - (intOf t5).toNat)
  case atStart => exact ⟨0, xs.length, by omega, by omega, rfl, rfl, fun _ _ h => by omega, fun _ _ h => by omega⟩
  case round =>
    obtain ⟨lo, hi, hlh, hhl, rfl, rfl, hL, hG⟩ := hrel
    by_cases hlt : lo < hi
    · have hmid : (lo + hi) / 2 < xs.length := by omega
      have hm1 : lo ≤ (lo + hi) / 2 := by omega
      have hm2 : (lo + hi) / 2 < hi := by omega
      obtain ⟨b, off, rfl, hc⟩ := hx.get1 hmid
      have hc' := hI.cell hc
      clear hc
      by_cases hcmp : xs[(lo + hi) / 2] < n
      · have hd : decide (xs[(lo + hi) / 2] < n) = true := by simp [hcmp]
        have hL' := LtN.up HR.out hmid hcmp
        clear hcmp hL
        go_wp2
        go_round
        case rel => exact ⟨(lo + hi) / 2 + 1, hi, by omega, by omega, by rw [show ((lo : Int) + hi) / 2 + 1 = (((lo + hi) / 2 + 1 : Nat) : Int) by omega], rfl, hL', hG⟩
        case measure => simp [intOf]; omega
      · have hd : decide (xs[(lo + hi) / 2] < n) = false := by simp [hcmp]
        have hG' := GeN.down HR.out hmid hcmp
        clear hcmp hG
        go_wp2
        go_round
        case rel => exact ⟨lo, (lo + hi) / 2, by omega, by omega, rfl, by rw [show ((lo : Int) + hi) / 2 = (((lo + hi) / 2 : Nat) : Int) by omega], hL, hG'⟩
        case measure => simp [intOf]; omega
    · obtain rfl : lo = hi := by omega
      have hins := Lib.hid (ins_at HR.out hhl hL hG)
      clear hL hG
      by_cases hk : lo < xs.length
      · obtain ⟨b, off, rfl, hc⟩ := hx.get1 hk
        have hc' := hI.cell hc
        clear hc
        by_cases he : xs[lo] = n
        · have hb : (xs[lo] == n) = true := by simp [he]
          have hins2 : ins n xs = xs := by rw [hins.out, dif_pos hk, if_pos he]
          have hins3 := Lib.hid hins2
          clear he hins2
          go_wp2
          go_ret
          refine ⟨_, rfl, ?_, ?_, ?_⟩
          · rw [hins3.out]; exact HV.out ▸ HO.out
          · exact World.grownBy.refl w _
          · exact .inl rfl
        · have hb : (xs[lo] == n) = false := by simp [he]
          have hins2 : ins n xs = xs.take lo ++ n :: xs.drop lo := by rw [hins.out, dif_pos hk, if_neg he]
          have hins3 := Lib.hid hins2
          clear he hins2
          go_wp2_with (at_builtin; go_must (refine app_new (W := w) base rfl (.tmp 39) (.tmp 40) 29 3 (.int .i64 0) 1 8 rfl Tryd.underlying29 Tryd.infoInt rfl (by decide) (by decide) _ xs.length (xs.map (Value.int .i64)) [.int .i64 0] rfl rfl rfl (by simp [Value.oneCell']) (HV.out ▸ HO.out) hbase hlen ?_; intro g cap w1 hown1 hg1 hat1; have Hown1 := Lib.hid hown1; clear hown1; obtain ⟨cur, _, hgb, hh, hlc, hcm, hsz, htake⟩ := own_le_cap Hown1.out; have HH := Lib.hid hh; clear hh; have HT := Lib.hid htake; clear htake; unfold maxLen at hcm))
          have hne : ¬ cap = lo + 1 := by omega
          have hne2 : ¬ cap = lo := by omega
          go_wp2
          have hw1 : IntKind.i64.wrap (↑lo + 1) = (lo : Int) + 1 := IntWalk.i64_in _ (by omega)
          have hw2 : (0 : Int) ≤ lo + 1 := by omega
          have hw3 : ((lo : Int) + 1).toNat = lo + 1 := by omega
          have hw4 : lo + 1 ≤ cap := by omega
          have hw5 : lo ≤ cap := by omega
          have hw6 : (lo : Int) ≤ xs.length + 1 := by omega
          have hw7 : (lo : Int) + 1 ≤ xs.length + 1 := by omega
          refine wp_region_still_tail 7 (by kernel_rfl) (by kernel_rfl) ?_
          simp only [List.take_succ_cons, List.take_zero, List.drop_succ_cons, List.drop_zero]
          repeat still_step
          refine wpStill_nil ?_
          clear hw1 hw2 hw3
          have ho : cur.take (xs.length + 1) = xs.map (Value.int .i64) ++ [.int .i64 0] := by have := HT.out; simpa using this
          have HO2 := Lib.hid ho
          clear ho
          refine wpList_copy_own rfl (.tmp 45) (.tmp 48) 29 29 rfl 3 Tryd.underlying29 Tryd.cellInt g (lo + 1) _ _ ⟨g, lo, none⟩ _ _ rfl rfl cur.toArray 3 HH.out ((xs.map (Value.int .i64)).drop lo) (by rw [List.length_drop, List.length_map]; show _ = min _ _; omega) (fun j u hu => ?_) (by simp; omega) (fun u hu => ?_) ?_
          · rw [add_addr]
            have := put_src (k := lo) (by rw [List.length_map]; exact HO2.out) hu
            exact (Wrote.refl HH.out).cell this
          · have := List.mem_of_mem_drop hu
            simp only [List.mem_map] at this
            obtain ⟨q, _, rfl⟩ := this
            rfl
          generalize hW2 : World.setRow { w1 with drawn := w1.drawn + 1 } g (cur.toArray.toList.take (lo + 1) ++ (((xs.map (Value.int .i64)).drop lo) ++ cur.toArray.toList.drop (lo + 1 + ((xs.map (Value.int .i64)).drop lo).length))).toArray = W2
          have HW : Wrote w1.drew W2 g (splice cur (lo + 1) ((xs.map (Value.int .i64)).drop lo)) 3 := by rw [← hW2]; exact (Wrote.refl (w := w1.drew) HH.out).setRow _
          clear hW2
          have HW' := Lib.hid HW
          have hcu : ∃ u0, W2.cell? ⟨g, lo, none⟩ = some u0 := by
            have hl : lo < (splice cur (lo + 1) ((xs.map (Value.int .i64)).drop lo)).length := by rw [length_splice _ _ _ (by simp; omega)]; omega
            exact ⟨_, HW'.out.cell (List.getElem?_eq_getElem hl)⟩
          obtain ⟨u0, hcu⟩ := hcu
          have hfz := HW'.out.frozen lo
          clear HW
          have hlo1 : (lo : Int) < xs.length + 1 := by omega
          go_wp2
          go_ret
          have hl1 : (ins n xs).length = xs.length + 1 := by rw [hins3.out]; simp; omega
          have hp := put_cells (y := .int .i64 n) (k := lo) (xs := xs.map (Value.int .i64)) (by simp; omega) (by rw [List.length_map]; exact HO2.out)
          have hf := put_fin (cap := cap) (ys := ins n xs) (HW'.out.set lo (.int .i64 n)) (by rw [hl1]; rw [List.length_map] at hp; rw [hp, hins3.out]; simp) (by rw [List.length_set, length_splice _ _ _ (by simp; omega)]; omega) hgb (by omega) hcm hg1 hat1
          rw [hl1] at hf
          exact HV.out ▸ hf
      · obtain rfl : lo = xs.length := by omega
        have hins2 : ins n xs = xs ++ [n] := by rw [hins.out, dif_neg hk]
        have hins3 := Lib.hid hins2
        clear hins2
        go_wp2_with (at_builtin; go_must (refine app_new (W := w) base rfl (.tmp 39) (.tmp 40) 29 3 (.int .i64 0) 1 8 rfl Tryd.underlying29 Tryd.infoInt rfl (by decide) (by decide) _ xs.length (xs.map (Value.int .i64)) [.int .i64 0] rfl rfl rfl (by simp [Value.oneCell']) (HV.out ▸ HO.out) hbase hlen ?_; intro g cap w1 hown1 hg1 hat1; have Hown1 := Lib.hid hown1; clear hown1; obtain ⟨cur, _, hgb, hh, hlc, hcm, hsz, htake⟩ := own_le_cap Hown1.out; have HH := Lib.hid hh; clear hh; have HT := Lib.hid htake; clear htake; unfold maxLen at hcm))
        by_cases hce : cap = xs.length + 1
        all_goals
          go_wp2
          have hw1 : IntKind.i64.wrap (↑xs.length + 1) = (xs.length : Int) + 1 := IntWalk.i64_in _ (by omega)
          have hw2 : (0 : Int) ≤ xs.length + 1 := by omega
          have hw3 : ((xs.length : Int) + 1).toNat = xs.length + 1 := by omega
          have hw5 : xs.length ≤ cap := by omega
          have hw6 : (xs.length : Int) ≤ xs.length + 1 := by omega
          have hw7 : ¬ xs.length = cap := by omega
          have hw8 : ¬ cap = xs.length := by omega
          refine wp_region_still_tail 7 (by kernel_rfl) (by kernel_rfl) ?_
          simp only [List.take_succ_cons, List.take_zero, List.drop_succ_cons, List.drop_zero]
          repeat still_step
          refine wpStill_nil ?_
          refine wpList_copy_nothing rfl (.tmp 45) (.tmp 48) 29 29 rfl 3 Tryd.underlying29 Tryd.cellInt _ _ _ _ _ _ rfl rfl (by show min _ _ = 0; omega) ?_
          generalize hW2 : ({ w1 with drawn := w1.drawn + 1 } : World) = W2
          have HW : Wrote w1.drew W2 g cur 3 := by rw [← hW2]; exact Wrote.refl HH.out
          clear hW2
          have HW' := Lib.hid HW
          have hcu : ∃ u0, W2.cell? ⟨g, xs.length, none⟩ = some u0 := by
            have hl : xs.length < cur.length := by omega
            exact ⟨_, HW'.out.cell (List.getElem?_eq_getElem hl)⟩
          obtain ⟨u0, hcu⟩ := hcu
          have hfz := HW'.out.frozen xs.length
          clear HW
          go_wp2
          go_ret
          have hl1 : (ins n xs).length = xs.length + 1 := by rw [hins3.out]; simp
          have hcm' : xs.length + 1 ≤ 9223372036854775807 := by omega
          have hf := put_fin (ys := ins n xs) (HW'.out.set xs.length (.int .i64 n)) (by rw [hl1, hins3.out]; have h1 := HT.out; simp only [Nat.mul_one] at h1; rw [List.take_set, h1]; simp) (by rw [List.length_set, hsz, Nat.mul_one]) hgb (by omega) (by omega) hg1 hat1
          rw [hl1] at hf
          first | (rw [hce] at hf; exact HV.out ▸ hf) | exact HV.out ▸ hf

end Go.Proofs.YteoeahmfpohpeaaDoor
