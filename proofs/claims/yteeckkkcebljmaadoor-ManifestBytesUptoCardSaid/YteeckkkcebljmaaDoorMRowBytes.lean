/- ManifestBytes: for every manifest and every text, of bulk at most 1048576, the function returns true, and its arguments read afterwards as before. Conditions: the bound on the bulk; the listed variables hold what the program's text lays; a call may outgrow no room that the form gives. -/
import Derived.Test.YteeckkkcebljmaaDoorMWalkO
import Derived.Test.YteeckkkcebljmaaDoorMRowK
namespace Go.Proofs.YteeckkkcebljmaaDoor.manifestBytesUpto
open Go.ChangeShapes Go.WideShapes Go.ChangeAt Go.RowKit
set_option maxRecDepth 100000
set_option linter.unusedVariables false

theorem contract (H : Type) (enc : TypeId × Value → H) (W : World) (base : Nat) (args : Array Value) (ds gs : List (DataW H)) (before : List MemPlace)
    (hval : ∀ (j : Nat) t v, Tryd.f3.params[j]? = some t → args[j]? = some v → Value.okWide Tryd.prog W .any base t v)
    (hW : DataW.Whole enc Tryd.prog Tryd.f3.params.toList Rows.manifestBytesSpec.vars false W args.toList ds gs before)
    (hsz : (DataW.weightsEach Tryd.prog (Tryd.f3.params.toList ++ (Rows.OpenSpec.upto Rows.manifestBytesSpec).bare.plain.varTypes Tryd.prog) (ds ++ gs)).all (· ≤ reachBytes) = true) (hk : Rows.uptoSmall H (ds ++ gs) = true) (hL : laidMet Tryd.prog Rows.manifestBytesUptoRow.laid W) (hS : W.ShapedOpen Tryd.prog) :
    Calls Tryd.prog 3 args W fun e W' => ∃ v, e = .returned v ∧ Rows.manifestBytesSpec.post enc Tryd.prog Tryd.f3 false true false false W args v W' := by
  have hW' := hW
  obtain ⟨p, q, hA0, hV, rfl, hfz, hnd⟩ := hW
  have hA : DataW.TrodAll enc Tryd.prog W 0 (fun _ => true) true Tryd.f3.params.toList args.toList ds p := hA0
  rw [Tryd.params3] at hA hval hsz
  obtain ⟨v0, v1, d0, d1, p0, p1, rfl, rfl, rfl, h0, h1⟩ := trodAll_two hA
  obtain ⟨rfl, rfl⟩ := trodVars_none hV
  obtain ⟨cs0, rfl, _⟩ := okWide_struct Tryd.underlying24 (hval 0 _ _ rfl rfl)
  obtain ⟨s1, rfl⟩ := okWide_string Tryd.underlying9 (hval 1 _ _ rfl rfl)
  clear hA0
  simp only [List.append_nil] at hW'
  have hlt : ∀ x ∈ p0 ++ p1, x.block < W.heap.size := fun x hx => by simpa using hW'.lt x hx
  have hm : ∀ m ∈ DataW.weightsEach Tryd.prog [24, 9] [d0, d1], m ≤ reachBytes := fun m hm => by
    have := List.all_eq_true.1 hsz m hm
    simpa using this
  have h0k := h0
  have h1k := h1
  obtain ⟨f0, e0⟩ := h0
  obtain ⟨f1, e1⟩ := h1
  obtain ⟨m, A, c, em, hSA, hl, hsz2⟩ := open_man e0 (Fits.each hm (j := 0) rfl rfl)
  have em2 : cs0.toList = [.slice A m.segs.length c, .string m.log, .int .i64 m.next, .int .i64 m.seq] := em
  have em3 := congrArg List.toArray em2
  rw [Array.toArray_toList] at em3
  subst em3
  have hr : reachBytes ≤ 140737488355328 := by decide
  obtain ⟨s, es, _, ed⟩ := open_str e1 (Fits.each hm (j := 1) rfl rfl)
  have es2 : [Value.string s1] = [Value.string s] := es
  cases es2
  simp only at ed
  subst ed
  have hbulk : s1.size ≤ 3000000 := by
    have h1 := of_decide_eq_true hk
    simp only [List.append_nil, Rows.uptoBulkAll, Rows.uptoBulk, Array.length_toList] at h1
    have : s1.data.size = s1.size := rfl
    omega
  refine (law_bytes (hp W) (gl_of_laid hL hS) W (In.hp W) m A c hSA (by omega) (fun x hx => by have := hsz2 x hx; omega) s1 hbulk).mono ?_
  rintro e W' ⟨rfl, hbelow⟩
  refine ⟨_, rfl, _, _, _, [] ++ [], p0 ++ p1, [], hW', trodAll_cons_mk (shut_bool Tryd.underlying4 _) trodAll_mk0, trodAll_mk2 (Below.trod laid_out rec_man row_man h0k hbelow (fun x hx => hlt x (List.mem_append.2 (.inl (hx))))) (Below.trod laid_out rec_str row_str h1k hbelow (fun x hx => hlt x (List.mem_append.2 (.inr hx)))), rfl, hbelow.frame _, fun h => by cases h⟩

theorem laid_met (os : Os) : laidMet Tryd.prog Rows.manifestBytesUptoRow.laid ((laidWorld os).forCall (fun _ _ => 0) ⟨#[], #[zeroMan, .string ⟨#[]⟩], []⟩).memory :=
  laidMet_of_run' 8 (by kernel_rfl) (by kernel_rfl)
theorem reads (os : Os) {H : Type} (enc : TypeId × Value → H) : ∃ places, DataW.whole enc Tryd.prog ((laidWorld os).forCall (fun _ _ => 0) ⟨#[], #[zeroMan, .string ⟨#[]⟩], []⟩).memory Tryd.f3.params.toList Rows.manifestBytesSpec.vars false (#[zeroMan, .string ⟨#[]⟩] : Array Value).toList 8 = some ([.agg [.nil, .lit (.string []), .lit (.int .i64 0), .lit (.int .i64 0)], .lit (.string [])], [], places) :=
  ⟨[], by kernel_rfl⟩

theorem lifted (os : Os) (started : os.Started) (H : Type) (enc : TypeId × Value → H) (F : Stop.Interp) :
    ReturnsInHanded {} Tryd.checked os 3 .any ((Rows.OpenSpec.upto Rows.manifestBytesSpec).preRow enc Tryd.prog Tryd.f3 Rows.manifestBytesUptoRow.domain false Rows.manifestBytesUptoRow.laid) (((Rows.OpenSpec.upto Rows.manifestBytesSpec).at F).post enc Tryd.prog Tryd.f3 false true false false) := by
  obtain ⟨places, hx⟩ := reads os enc
  refine returnsInHanded_of_row (C := Tryd.checked) (s := (Rows.OpenSpec.upto Rows.manifestBytesSpec)) own_knob started (by kernel_rfl) Tryd.func3
    (witness_row_atRef (enc := enc) (C := Tryd.checked) false (laidWorld os) #[zeroMan, .string ⟨#[]⟩] rfl (by kernel_rfl) (by kernel_rfl) (by kernel_rfl)
      (OpenSpec.preRow_of_cond 8 hx (by kernel_rfl) (fun k hk => by cases hk; kernel_rfl) (by kernel_rfl) (laid_met os))) ?_
  intro W base args ds gs before hval hW _ hcond hsz hL hS _
  exact contract H enc W base args ds gs before hval hW hsz (hcond _ rfl) hL hS

theorem said : Rows.ManifestBytesUptoSaid :=
  OpenClaim.holds_of_cond 3 Tryd.f3 rfl rfl rfl rfl rfl rfl rfl ⟨rfl, rfl, rfl, rfl, rfl⟩ rfl rfl rfl rfl rfl (by kernel_rfl) Tryd.func3 (by kernel_rfl)
    (of_decide_eq_true (by kernel_rfl)) (by unfold Func.isWrapper; first | (rw [if_pos (by decide +kernel)]; kernel_rfl) | (rw [if_neg (by decide +kernel)]; exact ⟨rfl, rfl⟩))
    (fun os started H enc _ F => by rw [OpenClaim.pre_eq_preRow]; exact lifted os started H enc F)

theorem plain (f : FuncId) (fn : Func) (hf : Tryd.pinned.checked.prog.funcNamed "lodestar/lodestarlaw11.ManifestBytes" = some f) (hfn : Tryd.pinned.checked.prog.funcs[f]? = some fn) :
    true = Tryd.pinned.checked.prog.looks [] ∧ ∀ (j : Nat) t, fn.params[j]? = some t → Tryd.pinned.checked.prog.wantsStandIn t = false := by
  obtain rfl : f = 3 := Option.some.inj ((show Tryd.prog.funcNamed "lodestar/lodestarlaw11.ManifestBytes" = some 3 by kernel_rfl).symm.trans hf) |>.symm
  obtain rfl : fn = Tryd.f3 := (Option.some.inj (Tryd.func3.symm.trans hfn)).symm
  refine ⟨by kernel_rfl, fun j t ht => ?_⟩
  rw [Tryd.params3] at ht
  have hm := Array.mem_of_getElem? ht
  simp at hm
  rcases hm with rfl | rfl
  · exact (show Tryd.prog.wantsStandIn 24 = false by kernel_rfl)
  · exact (show Tryd.prog.wantsStandIn 9 = false by kernel_rfl)

end Go.Proofs.YteeckkkcebljmaaDoor.manifestBytesUpto
namespace Go.Proofs.YteeckkkcebljmaaDoor
/-- The card of ManifestBytes. -/
theorem manifestBytesUpto_card : Rows.ManifestBytesUptoCardSaid :=
  Claim7.holds_tied_plain_at .later [] _ _ _ _ manifestBytesUpto.said (fun _ h => by cases h) (by kernel_rfl) (fun _ h => by cases h) manifestBytesUpto_row_tie rfl ⟨rfl, rfl⟩ (by kernel_rfl) rfl manifestBytesUpto.plain (by kernel_rfl)
end Go.Proofs.YteeckkkcebljmaaDoor
