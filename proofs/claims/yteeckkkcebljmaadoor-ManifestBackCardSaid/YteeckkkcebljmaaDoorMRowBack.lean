/- ManifestBack: for every manifest, number and byte the function returns true, and its arguments read afterwards as before. Conditions: the row's own (the listed variables hold what the program's text lays; a call may outgrow no room that the form gives). -/
import Derived.Test.YteeckkkcebljmaaDoorMWalkP
import Derived.Test.YteeckkkcebljmaaDoorMRowK
namespace Go.Proofs.YteeckkkcebljmaaDoor.manifestBack
open Go.ChangeShapes Go.WideShapes Go.ChangeAt Go.RowKit
set_option maxRecDepth 100000
set_option linter.unusedVariables false

theorem contract (H : Type) (enc : TypeId × Value → H) (W : World) (base : Nat) (args : Array Value) (ds gs : List (DataW H)) (before : List MemPlace)
    (hval : ∀ (j : Nat) t v, Tryd.f4.params[j]? = some t → args[j]? = some v → Value.okWide Tryd.prog W .any base t v)
    (hW : DataW.Whole enc Tryd.prog Tryd.f4.params.toList Rows.manifestBackSpec.vars false W args.toList ds gs before)
    (hsz : (DataW.weightsEach Tryd.prog (Tryd.f4.params.toList ++ (OpenSpec.ofChange Rows.manifestBackSpec).bare.plain.varTypes Tryd.prog) (ds ++ gs)).all (· ≤ reachBytes) = true) (hL : laidMet Tryd.prog Rows.manifestBackRow.laid W) (hS : W.ShapedOpen Tryd.prog) :
    Calls Tryd.prog 4 args W fun e W' => ∃ v, e = .returned v ∧ Rows.manifestBackSpec.post enc Tryd.prog Tryd.f4 false true false false W args v W' := by
  have hW' := hW
  obtain ⟨p, q, hA0, hV, rfl, hfz, hnd⟩ := hW
  have hA : DataW.TrodAll enc Tryd.prog W 0 (fun _ => true) true Tryd.f4.params.toList args.toList ds p := hA0
  rw [Tryd.params4] at hA hval hsz
  obtain ⟨v0, v1, v2, d0, d1, d2, p0, p1, p2, rfl, rfl, rfl, h0, h1, h2⟩ := trodAll_three hA
  obtain ⟨rfl, rfl⟩ := trodVars_none hV
  obtain ⟨cs0, rfl, _⟩ := okWide_struct Tryd.underlying24 (hval 0 _ _ rfl rfl)
  obtain ⟨n1, rfl⟩ := okWide_int Tryd.underlying3 (hval 1 _ _ rfl rfl)
  obtain ⟨n2, rfl⟩ := okWide_int Tryd.underlying5 (hval 2 _ _ rfl rfl)
  clear hA0
  simp only [List.append_nil] at hW'
  have hlt : ∀ x ∈ p0 ++ p1 ++ p2, x.block < W.heap.size := fun x hx => by simpa using hW'.lt x hx
  have hm : ∀ m ∈ DataW.weightsEach Tryd.prog [24, 3, 5] [d0, d1, d2], m ≤ reachBytes := fun m hm => by
    have := List.all_eq_true.1 hsz m hm
    simpa using this
  have h0k := h0
  have h1k := h1
  have h2k := h2
  obtain ⟨f0, e0⟩ := h0
  obtain ⟨f1, e1⟩ := h1
  obtain ⟨f2, e2⟩ := h2
  obtain ⟨m, A, c, em, hSA, hl, hsz2⟩ := open_man e0 (Fits.each hm (j := 0) rfl rfl)
  have em2 : cs0.toList = [.slice A m.segs.length c, .string m.log, .int .i64 m.next, .int .i64 m.seq] := em
  have em3 := congrArg List.toArray em2
  rw [Array.toArray_toList] at em3
  subst em3
  have hr : reachBytes ≤ 140737488355328 := by decide
  obtain ⟨k1, ek1, _, hw1⟩ := DataW.trod_int Tryd.underlying3 e1
  obtain ⟨k2, ek2, _, hw2⟩ := DataW.trod_int Tryd.underlying5 e2
  have ek3 : [Value.int .i64 n1] = [Value.int .i64 k1] := ek1
  have ek4 : [Value.int .u8 n2] = [Value.int .u8 k2] := ek2
  cases ek3
  cases ek4
  simp [Lit.wf, IntKind.min, IntKind.max, IntKind.signed, IntKind.bits] at hw1 hw2
  refine (law_back (hp W) (gl_of_laid hL hS) W (In.hp W) m A c hSA (by omega) (fun x hx => by have := hsz2 x hx; omega) n1 n2 (by omega) (by omega) (by omega) (by omega)).mono ?_
  rintro e W' ⟨rfl, hbelow⟩
  refine ⟨_, rfl, _, _, _, [] ++ [], p0 ++ p1 ++ p2, [], hW', trodAll_cons_mk (shut_bool Tryd.underlying4 _) trodAll_mk0, (by rw [List.append_assoc]; exact trodAll_mk3 (Below.trod laid_out rec_man row_man h0k hbelow (fun x hx => hlt x (List.mem_append.2 (.inl (List.mem_append.2 (.inl (hx))))))) (Below.trod laid_out rec_int row_int h1k hbelow (fun x hx => hlt x (List.mem_append.2 (.inl (List.mem_append.2 (.inr hx)))))) (Below.trod laid_out rec_u8 row_u8 h2k hbelow (fun x hx => hlt x (List.mem_append.2 (.inr hx))))), rfl, hbelow.frame _, fun h => by cases h⟩

theorem laid_met (os : Os) : laidMet Tryd.prog Rows.manifestBackRow.laid ((laidWorld os).forCall (fun _ _ => 0) ⟨#[], #[zeroMan, .int .i64 0, .int .u8 0], []⟩).memory :=
  laidMet_of_run' 8 (by kernel_rfl) (by kernel_rfl)
theorem reads (os : Os) {H : Type} (enc : TypeId × Value → H) : ∃ places, DataW.whole enc Tryd.prog ((laidWorld os).forCall (fun _ _ => 0) ⟨#[], #[zeroMan, .int .i64 0, .int .u8 0], []⟩).memory Tryd.f4.params.toList Rows.manifestBackSpec.vars false (#[zeroMan, .int .i64 0, .int .u8 0] : Array Value).toList 8 = some ([.agg [.nil, .lit (.string []), .lit (.int .i64 0), .lit (.int .i64 0)], .lit (.int .i64 0), .lit (.int .u8 0)], [], places) :=
  ⟨[], by kernel_rfl⟩

theorem lifted (os : Os) (started : os.Started) (H : Type) (enc : TypeId × Value → H) (F : Stop.Interp) :
    ReturnsInHanded {} Tryd.checked os 4 .any ((OpenSpec.ofChange Rows.manifestBackSpec).preRow enc Tryd.prog Tryd.f4 Rows.manifestBackRow.domain false Rows.manifestBackRow.laid) (((OpenSpec.ofChange Rows.manifestBackSpec).at F).post enc Tryd.prog Tryd.f4 false true false false) := by
  obtain ⟨places, hx⟩ := reads os enc
  refine returnsInHanded_of_row (C := Tryd.checked) (s := (OpenSpec.ofChange Rows.manifestBackSpec)) own_knob started (by kernel_rfl) Tryd.func4
    (witness_row_atRef (enc := enc) (C := Tryd.checked) false (laidWorld os) #[zeroMan, .int .i64 0, .int .u8 0] rfl (by kernel_rfl) (by kernel_rfl) (by kernel_rfl)
      (OpenSpec.preRow_of_cond 8 hx (by kernel_rfl) (fun k hk => by cases hk) (by kernel_rfl) (laid_met os))) ?_
  intro W base args ds gs before hval hW _ hcond hsz hL hS _
  exact contract H enc W base args ds gs before hval hW hsz hL hS

theorem said : Rows.ManifestBackSaid :=
  OpenClaim.holds_of_cond 4 Tryd.f4 rfl rfl rfl rfl rfl rfl rfl ⟨rfl, rfl, rfl, rfl, rfl⟩ rfl rfl rfl rfl rfl (by kernel_rfl) Tryd.func4 (by kernel_rfl)
    (of_decide_eq_true (by kernel_rfl)) (by unfold Func.isWrapper; first | (rw [if_pos (by decide +kernel)]; kernel_rfl) | (rw [if_neg (by decide +kernel)]; exact ⟨rfl, rfl⟩))
    (fun os started H enc _ F => by rw [OpenClaim.pre_eq_preRow]; exact lifted os started H enc F)

theorem plain (f : FuncId) (fn : Func) (hf : Tryd.pinned.checked.prog.funcNamed "lodestar/lodestarlaw11.ManifestBack" = some f) (hfn : Tryd.pinned.checked.prog.funcs[f]? = some fn) :
    true = Tryd.pinned.checked.prog.looks [] ∧ ∀ (j : Nat) t, fn.params[j]? = some t → Tryd.pinned.checked.prog.wantsStandIn t = false := by
  obtain rfl : f = 4 := Option.some.inj ((show Tryd.prog.funcNamed "lodestar/lodestarlaw11.ManifestBack" = some 4 by kernel_rfl).symm.trans hf) |>.symm
  obtain rfl : fn = Tryd.f4 := (Option.some.inj (Tryd.func4.symm.trans hfn)).symm
  refine ⟨by kernel_rfl, fun j t ht => ?_⟩
  rw [Tryd.params4] at ht
  have hm := Array.mem_of_getElem? ht
  simp at hm
  rcases hm with rfl | rfl | rfl
  · exact (show Tryd.prog.wantsStandIn 24 = false by kernel_rfl)
  · exact (show Tryd.prog.wantsStandIn 3 = false by kernel_rfl)
  · exact (show Tryd.prog.wantsStandIn 5 = false by kernel_rfl)

end Go.Proofs.YteeckkkcebljmaaDoor.manifestBack
namespace Go.Proofs.YteeckkkcebljmaaDoor
/-- The card of ManifestBack. -/
theorem manifestBack_card : Rows.ManifestBackCardSaid :=
  Claim7.holds_tied_plain_at .later [] _ _ _ _ manifestBack.said (fun _ h => by cases h) (by kernel_rfl) (fun _ h => by cases h) manifestBack_row_tie rfl ⟨rfl, rfl⟩ (by kernel_rfl) rfl manifestBack.plain (by kernel_rfl)
end Go.Proofs.YteeckkkcebljmaaDoor
