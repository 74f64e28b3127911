/- FilterParts: for every condition and every list of points the function returns true, and its arguments read afterwards as before. Conditions: the row's own (the two listed tables hold what the program's text lays; a call may outgrow no room that the form gives). -/
import Derived.Test.YteoeahmfpohpeaaDoorWalkU
import Derived.Test.YteoeahmfpohpeaaDoorRowK
namespace Go.Proofs.YteoeahmfpohpeaaDoor.filterParts
open Go.ChangeShapes Go.WideShapes Go.ChangeAt Go.RowKit
set_option maxRecDepth 100000
set_option linter.unusedVariables false

theorem contract (H : Type) (enc : TypeId × Value → H) (W : World) (base : Nat) (args : Array Value) (ds gs : List (DataW H)) (before : List MemPlace)
    (hval : ∀ (j : Nat) t v, Tryd.f5.params[j]? = some t → args[j]? = some v → Value.okWide Tryd.prog W .any base t v)
    (hW : DataW.Whole enc Tryd.prog Tryd.f5.params.toList Rows.filterPartsSpec.vars false W args.toList ds gs before)
    (hsz : (DataW.weightsEach Tryd.prog (Tryd.f5.params.toList ++ (OpenSpec.ofChange Rows.filterPartsSpec).bare.plain.varTypes Tryd.prog) (ds ++ gs)).all (· ≤ reachBytes) = true) :
    Calls Tryd.prog 5 args W fun e W' => ∃ v, e = .returned v ∧ Rows.filterPartsSpec.post enc Tryd.prog Tryd.f5 false true false false W args v W' := by
  have hW' := hW
  obtain ⟨p, q, hA0, hV, rfl, hfz, hnd⟩ := hW
  have hA : DataW.TrodAll enc Tryd.prog W 0 (fun _ => true) true Tryd.f5.params.toList args.toList ds p := hA0
  rw [Tryd.params5] at hA hval hsz
  obtain ⟨v0, v1, d0, d1, p0, p1, rfl, rfl, rfl, h0, h1⟩ := trodAll_two hA
  obtain ⟨rfl, rfl⟩ := trodVars_none hV
  obtain ⟨cs0, rfl, _⟩ := okWide_struct Tryd.underlying26 (hval 0 _ _ rfl rfl)
  obtain ⟨a1, len, cap, rfl⟩ := okWide_slice Tryd.underlying27 (hval 1 _ _ rfl rfl)
  clear hA0
  simp only [List.append_nil] at hW'
  have hlt : ∀ x ∈ p0 ++ p1, x.block < W.heap.size := fun x hx => by simpa using hW'.lt x hx
  have hm : ∀ m ∈ DataW.weightsEach Tryd.prog [26, 27] [d0, d1], m ≤ reachBytes := fun m hm => by
    have := List.all_eq_true.1 hsz m hm
    simpa using this
  have h0k := h0
  have h1k := h1
  obtain ⟨f0, e0⟩ := h0
  obtain ⟨f1, e1⟩ := h1
  obtain ⟨c, hc⟩ := open_cond f0 _ _ e0 (Fits.each hm (j := 0) rfl rfl)
  obtain ⟨l, v, ev, ⟨A, cp, rfl, _, hl⟩, hb⟩ := open_pts e1 (Fits.each hm (j := 1) rfl rfl)
  simp [Value.cells] at ev
  obtain ⟨rfl, rfl, rfl⟩ := ev
  have hbb : (l.length + 1) * 8 ≤ 140737488355328 := by simp only [reachBytes] at hb; omega
  refine (law_parts (hp W) f0 W c _ l a1 cap (In.hp W) hc hl hb).mono ?_
  rintro e W' ⟨rfl, hbelow⟩
  refine ⟨_, rfl, _, _, _, [] ++ [], p0 ++ p1, [], hW', trodAll_cons_mk (shut_bool Tryd.underlying4 _) trodAll_mk0, trodAll_mk2 (Below.trod laid_out rec_conds row_conds h0k hbelow (fun x hx => hlt x (List.mem_append.2 (.inl hx)))) (Below.trod laid_out rec_pts row_pts h1k hbelow (fun x hx => hlt x (List.mem_append.2 (.inr hx)))), rfl, hbelow.frame _, fun h => by cases h⟩

theorem laid_met (os : Os) : laidMet Tryd.prog Rows.filterPartsRow.laid ((laidWorld os).forCall (fun _ _ => 0) ⟨#[], #[zeroCond, .slice none 0 0], []⟩).memory :=
  laidMet_of_run' 8 (by kernel_rfl) (by kernel_rfl)
theorem reads (os : Os) {H : Type} (enc : TypeId × Value → H) : ∃ ds places, DataW.whole enc Tryd.prog ((laidWorld os).forCall (fun _ _ => 0) ⟨#[], #[zeroCond, .slice none 0 0], []⟩).memory Tryd.f5.params.toList Rows.filterPartsSpec.vars false #[zeroCond, Value.slice none 0 0].toList 8 = some (ds, [], places) :=
  ⟨[.agg [.lit (.int .i64 0), .lit (.string []), .agg [.lit (.int .i64 0), .lit (.int .i64 0), .lit (.string [])], .lit (.int .i64 0), .lit (.int .i64 0), .nil], .nil], [], by kernel_rfl⟩

theorem lifted (os : Os) (started : os.Started) (H : Type) (enc : TypeId × Value → H) (F : Stop.Interp) :
    ReturnsInHanded {} Tryd.checked os 5 .any ((OpenSpec.ofChange Rows.filterPartsSpec).preRow enc Tryd.prog Tryd.f5 Rows.filterPartsRow.domain false Rows.filterPartsRow.laid) (((OpenSpec.ofChange Rows.filterPartsSpec).at F).post enc Tryd.prog Tryd.f5 false true false false) := by
  obtain ⟨ds, places, hx⟩ := reads os enc
  refine returnsInHanded_of_row (C := Tryd.checked) (s := OpenSpec.ofChange Rows.filterPartsSpec) own_knob started (by kernel_rfl) Tryd.func5
    (witness_row_at (enc := enc) (C := Tryd.checked) false (laidWorld os) #[zeroCond, .slice none 0 0] rfl (by kernel_rfl) (by kernel_rfl) (by kernel_rfl)
      (OpenSpec.preRow_of_cond 8 hx (by kernel_rfl) (fun k hk => by cases hk) (by kernel_rfl) (laid_met os))) ?_
  intro W base args ds gs before hval hW _ _ hsz _ _ _
  exact contract H enc W base args ds gs before hval hW hsz

theorem said : Rows.FilterPartsSaid :=
  OpenClaim.holds_of_cond 5 Tryd.f5 rfl rfl rfl rfl rfl rfl rfl ⟨rfl, rfl, rfl, rfl, rfl⟩ rfl rfl rfl rfl rfl (by kernel_rfl) Tryd.func5 (by kernel_rfl)
    (of_decide_eq_true (by kernel_rfl)) (by unfold Func.isWrapper; first | (rw [if_pos (by decide +kernel)]; kernel_rfl) | (rw [if_neg (by decide +kernel)]; exact ⟨rfl, rfl⟩))
    (fun os started H enc _ F => by rw [OpenClaim.pre_eq_preRow]; exact lifted os started H enc F)

theorem plain (f : FuncId) (fn : Func) (hf : Tryd.pinned.checked.prog.funcNamed "lodestar/lodestarlaw16.FilterParts" = some f) (hfn : Tryd.pinned.checked.prog.funcs[f]? = some fn) :
    true = Tryd.pinned.checked.prog.looks [] ∧ ∀ (j : Nat) t, fn.params[j]? = some t → Tryd.pinned.checked.prog.wantsStandIn t = false := by
  obtain rfl : f = 5 := Option.some.inj ((show Tryd.prog.funcNamed "lodestar/lodestarlaw16.FilterParts" = some 5 by kernel_rfl).symm.trans hf) |>.symm
  obtain rfl : fn = Tryd.f5 := (Option.some.inj (Tryd.func5.symm.trans hfn)).symm
  refine ⟨by kernel_rfl, fun j t ht => ?_⟩
  rw [Tryd.params5] at ht
  have hm := Array.mem_of_getElem? ht
  simp at hm
  rcases hm with rfl | rfl
  · exact (show Tryd.prog.wantsStandIn 26 = false by kernel_rfl)
  · exact (show Tryd.prog.wantsStandIn 27 = false by kernel_rfl)

end Go.Proofs.YteoeahmfpohpeaaDoor.filterParts
namespace Go.Proofs.YteoeahmfpohpeaaDoor
/-- The card of FilterParts. -/
theorem filterParts_card : Rows.FilterPartsCardSaid :=
  Claim7.holds_tied_plain_at .later [] _ _ _ _ filterParts.said (fun _ h => by cases h) (by kernel_rfl) (fun _ h => by cases h) filterParts_row_tie rfl ⟨rfl, rfl⟩ (by kernel_rfl) rfl filterParts.plain (by kernel_rfl)
end Go.Proofs.YteoeahmfpohpeaaDoor
