/- FilterRules: for every three conditions and every point the function returns true, and its arguments read afterwards as before. Conditions: the row's own (the two listed tables hold what the program's text lays; a call may outgrow no room that the form gives). -/
import Derived.Test.YteoeahmfpohpeaaDoorWalkV
import Derived.Test.YteoeahmfpohpeaaDoorRowK
namespace Go.Proofs.YteoeahmfpohpeaaDoor.filterRules
open Go.ChangeShapes Go.WideShapes Go.ChangeAt Go.RowKit
set_option maxRecDepth 100000
set_option linter.unusedVariables false

theorem rec_three : Tryd.prog.readableRec 33 = true := by kernel_rfl
theorem rec_pt : Tryd.prog.readableRec 37 = true := by kernel_rfl
theorem row_three : 33 < Tryd.prog.types.size := of_decide_eq_true (by kernel_rfl)
theorem row_pt : 37 < Tryd.prog.types.size := of_decide_eq_true (by kernel_rfl)
theorem okWide_array {P : Program} {w : World} {r : Reach} {base : Nat} {t : TypeId} {v : Value} {n : Nat} {e : TypeId} (ht : P.underlying t = some (.array n e)) (h : Value.okWide P w r base t v) : ∃ cs, v = .agg cs ∧ cs.size = P.cellsOf t := by
  simp only [Value.okWide, ht] at h
  obtain ⟨cs, h1, h2, _⟩ := h
  exact ⟨cs, h1, h2⟩
theorem cells_three : Tryd.prog.cellsOf 33 = 24 := by kernel_rfl
theorem Fits.array {H : Type} {P : Program} {t e : TypeId} {n : Nat} {ds : List (DataW H)} (hu : P.underlying t = some (.array n e)) (h : Fits P t (.agg ds)) {d : DataW H} (hd : d ∈ ds) : Fits P e d :=
  fun m hm => h m (by simp only [DataW.weights, hu]; exact weightsAll_mem hd m hm)
theorem rcForm2 {H : PH} {n : Nat} {c : Cond} {cs : List Value} (h : RC H n c cs) : ∃ k nm v lo hi A m cp, cs = [.int .i64 k, .string nm, .int .i64 (Val.kind v), .int .i64 (Val.n v), .string (Val.text v), .int .i64 lo, .int .i64 hi, .slice A m cp] := by
  obtain ⟨k, nm, v, lo, hi, A, m, cp, rfl⟩ := h.form
  exact ⟨k, nm, v, lo, hi, A, m, cp, rfl⟩
theorem open_three {H : Type} {enc : TypeId × Value → H} {w : World} {spare : Nat → Bool} {held : Bool} {fuel : Nat} {cs : List Value} {y : DataW H × List MemPlace} (h : DataW.trod enc Tryd.prog w 0 spare held fuel 33 cs = some y) (hf : Fits Tryd.prog 33 y.1) :
    ∃ n a b c ca cb cc, cs = ca ++ cb ++ cc ∧ RC (hp w) n a ca ∧ RC (hp w) n b cb ∧ RC (hp w) n c cc := by
  obtain ⟨xs, m, rfl, rfl, hl, hlen, hi⟩ := DataW.trod_array Tryd.underlying33 h
  rw [cells_three] at hl
  have key : ∀ i (hi3 : i < 3), ∃ c, RC (hp w) m c ((cs.drop (i * 8)).take 8) := fun i hi3 => by
    have h1 := hi i hi3
    rw [cells_cond, List.getElem?_eq_getElem (by omega)] at h1
    exact open_cond m _ _ h1 (Fits.array Tryd.underlying33 hf (List.mem_map.2 ⟨xs[i], List.getElem_mem _, rfl⟩))
  obtain ⟨a, ha⟩ := key 0 (by omega)
  obtain ⟨b, hb⟩ := key 1 (by omega)
  obtain ⟨c, hc⟩ := key 2 (by omega)
  refine ⟨m, a, b, c, _, _, _, ?_, ha, hb, hc⟩
  match cs, hl with
  | [_, _, _, _, _, _, _, _, _, _, _, _, _, _, _, _, _, _, _, _, _, _, _, _], _ => rfl

theorem contract (H : Type) (enc : TypeId × Value → H) (W : World) (base : Nat) (args : Array Value) (ds gs : List (DataW H)) (before : List MemPlace)
    (hval : ∀ (j : Nat) t v, Tryd.f4.params[j]? = some t → args[j]? = some v → Value.okWide Tryd.prog W .any base t v)
    (hW : DataW.Whole enc Tryd.prog Tryd.f4.params.toList Rows.filterRulesSpec.vars false W args.toList ds gs before)
    (hsz : (DataW.weightsEach Tryd.prog (Tryd.f4.params.toList ++ (OpenSpec.ofChange Rows.filterRulesSpec).bare.plain.varTypes Tryd.prog) (ds ++ gs)).all (· ≤ reachBytes) = true) :
    Calls Tryd.prog 4 args W fun e W' => ∃ v, e = .returned v ∧ Rows.filterRulesSpec.post enc Tryd.prog Tryd.f4 false true false false W args v W' := by
  have hW' := hW
  obtain ⟨p, q, hA0, hV, rfl, hfz, hnd⟩ := hW
  have hA : DataW.TrodAll enc Tryd.prog W 0 (fun _ => true) true Tryd.f4.params.toList args.toList ds p := hA0
  rw [Tryd.params4] at hA hval hsz
  obtain ⟨v0, v1, d0, d1, p0, p1, rfl, rfl, rfl, h0, h1⟩ := trodAll_two hA
  obtain ⟨rfl, rfl⟩ := trodVars_none hV
  obtain ⟨cs0, rfl, _⟩ := okWide_array Tryd.underlying33 (hval 0 _ _ rfl rfl)
  obtain ⟨cs1, rfl, _⟩ := okWide_struct Tryd.underlying37 (hval 1 _ _ rfl rfl)
  clear hA0
  simp only [List.append_nil] at hW'
  have hlt : ∀ x ∈ p0 ++ p1, x.block < W.heap.size := fun x hx => by simpa using hW'.lt x hx
  have hm : ∀ m ∈ DataW.weightsEach Tryd.prog [33, 37] [d0, d1], m ≤ reachBytes := fun m hm => by
    have := List.all_eq_true.1 hsz m hm
    simpa using this
  have h0k := h0
  have h1k := h1
  obtain ⟨f0, e0⟩ := h0
  obtain ⟨f1, e1⟩ := h1
  obtain ⟨n, a, b, c, ca, cb, cc, ecs, ha, hb, hc⟩ := open_three e0 (Fits.each hm (j := 0) rfl rfl)
  obtain ⟨p, hp1⟩ := open_pt e1 (Fits.each hm (j := 1) rfl rfl)
  simp only [Value.cells] at ecs hp1
  have hpk := hp1
  obtain ⟨V, F, epp, hV1, hF1⟩ := hp1
  rw [epp] at hpk
  obtain ⟨ka, ma, va, loa, hia, La, na, cpa, rfl⟩ := rcForm2 ha
  obtain ⟨kb, mb, vb, lob, hib, Lb, nb, cpb, rfl⟩ := rcForm2 hb
  obtain ⟨kc, mc, vc, loc, hic, Lc, nc, cpc, rfl⟩ := rcForm2 hc
  have ea0 := congrArg List.toArray ecs
  have ea1 := congrArg List.toArray epp
  rw [Array.toArray_toList] at ea0 ea1
  subst ea0 ea1
  refine (law_rules (hp W) n W a b c ka kb kc loa lob loc hia hib hic ma mb mc va vb vc La Lb Lc na nb nc cpa cpb cpc p V F (In.hp W) hpk hV1.one hF1.one ha hb hc).mono ?_
  rintro e W' ⟨rfl, hbelow⟩
  refine ⟨_, rfl, _, _, _, [] ++ [], p0 ++ p1, [], hW', trodAll_cons_mk (shut_bool Tryd.underlying4 _) trodAll_mk0, trodAll_mk2 (Below.trod laid_out rec_three row_three h0k hbelow (fun x hx => hlt x (List.mem_append.2 (.inl hx)))) (Below.trod laid_out rec_pt row_pt h1k hbelow (fun x hx => hlt x (List.mem_append.2 (.inr hx)))), rfl, hbelow.frame _, fun h => by cases h⟩

def zeroThree : Value := .agg #[.int .i64 0, .string ⟨#[]⟩, .int .i64 0, .int .i64 0, .string ⟨#[]⟩, .int .i64 0, .int .i64 0, .slice none 0 0, .int .i64 0, .string ⟨#[]⟩, .int .i64 0, .int .i64 0, .string ⟨#[]⟩, .int .i64 0, .int .i64 0, .slice none 0 0, .int .i64 0, .string ⟨#[]⟩, .int .i64 0, .int .i64 0, .string ⟨#[]⟩, .int .i64 0, .int .i64 0, .slice none 0 0]
def zeroPt : Value := .agg #[.int .i64 0, .slice none 0 0, .slice none 0 0]
theorem laid_met (os : Os) : laidMet Tryd.prog Rows.filterRulesRow.laid ((laidWorld os).forCall (fun _ _ => 0) ⟨#[], #[zeroThree, zeroPt], []⟩).memory :=
  laidMet_of_run' 8 (by kernel_rfl) (by kernel_rfl)
theorem reads (os : Os) {H : Type} (enc : TypeId × Value → H) : ∃ ds places, DataW.whole enc Tryd.prog ((laidWorld os).forCall (fun _ _ => 0) ⟨#[], #[zeroThree, zeroPt], []⟩).memory Tryd.f4.params.toList Rows.filterRulesSpec.vars false #[zeroThree, zeroPt].toList 8 = some (ds, [], places) :=
  ⟨[.agg [.agg [.lit (.int .i64 0), .lit (.string []), .agg [.lit (.int .i64 0), .lit (.int .i64 0), .lit (.string [])], .lit (.int .i64 0), .lit (.int .i64 0), .nil], .agg [.lit (.int .i64 0), .lit (.string []), .agg [.lit (.int .i64 0), .lit (.int .i64 0), .lit (.string [])], .lit (.int .i64 0), .lit (.int .i64 0), .nil], .agg [.lit (.int .i64 0), .lit (.string []), .agg [.lit (.int .i64 0), .lit (.int .i64 0), .lit (.string [])], .lit (.int .i64 0), .lit (.int .i64 0), .nil]], .agg [.lit (.int .i64 0), .nil, .nil]], [], by kernel_rfl⟩

theorem lifted (os : Os) (started : os.Started) (H : Type) (enc : TypeId × Value → H) (F : Stop.Interp) :
    ReturnsInHanded {} Tryd.checked os 4 .any ((OpenSpec.ofChange Rows.filterRulesSpec).preRow enc Tryd.prog Tryd.f4 Rows.filterRulesRow.domain false Rows.filterRulesRow.laid) (((OpenSpec.ofChange Rows.filterRulesSpec).at F).post enc Tryd.prog Tryd.f4 false true false false) := by
  obtain ⟨ds, places, hx⟩ := reads os enc
  refine returnsInHanded_of_row (C := Tryd.checked) (s := OpenSpec.ofChange Rows.filterRulesSpec) own_knob started (by kernel_rfl) Tryd.func4
    (witness_row_at (enc := enc) (C := Tryd.checked) false (laidWorld os) #[zeroThree, zeroPt] rfl (by kernel_rfl) (by kernel_rfl) (by kernel_rfl)
      (OpenSpec.preRow_of_cond 8 hx (by kernel_rfl) (fun k hk => by cases hk) (by kernel_rfl) (laid_met os))) ?_
  intro W base args ds gs before hval hW _ _ hsz _ _ _
  exact contract H enc W base args ds gs before hval hW hsz

theorem said : Rows.FilterRulesSaid :=
  OpenClaim.holds_of_cond 4 Tryd.f4 rfl rfl rfl rfl rfl rfl rfl ⟨rfl, rfl, rfl, rfl, rfl⟩ rfl rfl rfl rfl rfl (by kernel_rfl) Tryd.func4 (by kernel_rfl)
    (of_decide_eq_true (by kernel_rfl)) (by unfold Func.isWrapper; first | (rw [if_pos (by decide +kernel)]; kernel_rfl) | (rw [if_neg (by decide +kernel)]; exact ⟨rfl, rfl⟩))
    (fun os started H enc _ F => by rw [OpenClaim.pre_eq_preRow]; exact lifted os started H enc F)

theorem plain (f : FuncId) (fn : Func) (hf : Tryd.pinned.checked.prog.funcNamed "lodestar/lodestarlaw16.FilterRules" = some f) (hfn : Tryd.pinned.checked.prog.funcs[f]? = some fn) :
    true = Tryd.pinned.checked.prog.looks [] ∧ ∀ (j : Nat) t, fn.params[j]? = some t → Tryd.pinned.checked.prog.wantsStandIn t = false := by
  obtain rfl : f = 4 := Option.some.inj ((show Tryd.prog.funcNamed "lodestar/lodestarlaw16.FilterRules" = some 4 by kernel_rfl).symm.trans hf) |>.symm
  obtain rfl : fn = Tryd.f4 := (Option.some.inj (Tryd.func4.symm.trans hfn)).symm
  refine ⟨by kernel_rfl, fun j t ht => ?_⟩
  rw [Tryd.params4] at ht
  have hm := Array.mem_of_getElem? ht
  simp at hm
  rcases hm with rfl | rfl
  · exact (show Tryd.prog.wantsStandIn 33 = false by kernel_rfl)
  · exact (show Tryd.prog.wantsStandIn 37 = false by kernel_rfl)

end Go.Proofs.YteoeahmfpohpeaaDoor.filterRules
namespace Go.Proofs.YteoeahmfpohpeaaDoor
/-- The card of FilterRules. -/
theorem filterRules_card : Rows.FilterRulesCardSaid :=
  Claim7.holds_tied_plain_at .later [] _ _ _ _ filterRules.said (fun _ h => by cases h) (by kernel_rfl) (fun _ h => by cases h) filterRules_row_tie rfl ⟨rfl, rfl⟩ (by kernel_rfl) rfl filterRules.plain (by kernel_rfl)
end Go.Proofs.YteoeahmfpohpeaaDoor
