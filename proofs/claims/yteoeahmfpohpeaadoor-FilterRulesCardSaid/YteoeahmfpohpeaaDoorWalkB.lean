/- Walks: cmp.Compare, cmp.Or, payload.Compare, lodestarref05.Get, lodestarref05.Compare. -/
import Derived.Test.YteoeahmfpohpeaaDoorWalkA
import Derived.Test.YteoeahmfpohpeaaDoorPureB
import Derived.StillTailTactics
namespace Go.Proofs.YteoeahmfpohpeaaDoor
open Go.RowKit Go.Shelf
set_option maxRecDepth 100000
set_option linter.unusedVariables false
set_option linter.unusedSimpArgs false

set_option maxHeartbeats 1000000 in
theorem cmpI_calls (w : World) (a b : Int) : Calls Tryd.prog 37 #[.int .i64 a, .int .i64 b] w fun e w' => e = .returned (.int .i64 (cmpI a b)) ∧ w = w' := by
  have h1 : (a == a) = true := by simp
  have h2 : (a != a) = false := by simp
  have h3 : (b != b) = false := by simp
  by_cases ha : a < b
  · go_enter Tryd.func37, Tryd.ntmps37
    go_wp2
    go_ret
    exact ⟨by simp [cmpI, ha], rfl⟩
  · by_cases hb : b < a
    · go_enter Tryd.func37, Tryd.ntmps37
      go_wp2
      go_ret
      exact ⟨by simp [cmpI, ha, hb], rfl⟩
    · have hz : cmpI a b = 0 := by unfold cmpI; rw [if_neg ha, if_neg hb]
      have hz' := Lib.hid hz
      clear hz
      go_enter Tryd.func37, Tryd.ntmps37
      go_wp2
      go_ret
      exact ⟨by rw [hz'.out]; rfl, rfl⟩

set_option maxHeartbeats 1000000 in
theorem cmpS_calls (w : World) (a b : ByteArray) : Calls Tryd.prog 38 #[.string a, .string b] w fun e w' => e = .returned (.int .i64 (cmpS a b)) ∧ w = w' := by
  have h2 : (a.toList != a.toList) = false := by simp
  have h3 : (b.toList != b.toList) = false := by simp
  cases ha : Op.bytesLess a.toList b.toList
  · cases hb : (a.toList == b.toList)
    · go_enter Tryd.func38, Tryd.ntmps38
      go_wp2
      go_ret
      exact ⟨by simp [cmpS, ha, hb], rfl⟩
    · go_enter Tryd.func38, Tryd.ntmps38
      go_wp2
      go_ret
      exact ⟨by simp [cmpS, ha, hb], rfl⟩
  · go_enter Tryd.func38, Tryd.ntmps38
    go_wp2
    go_ret
    exact ⟨by simp [cmpS, ha], rfl⟩

set_option maxHeartbeats 1000000 in
theorem or_calls (H : PH) (w : World) (A : Option Addr) (c : Nat) (l : List Int) (hI : In H w) (hl : Sl RI 1 H A l) :
    Calls Tryd.prog 36 #[.slice A l.length c] w fun e w' => e = .returned (.int .i64 (orI l)) ∧ w = w' := by
  have hm := hl.le
  have z0 : orI (l.drop 0) = orI l := rfl
  go_enter Tryd.func36, Tryd.ntmps36
  go_wp2
  go_loop [5, 8] (fun v5 v8 => ∃ k : Nat, k ≤ l.length ∧ v8 = .int .i64 k ∧ Hid (orI (l.drop k) = orI l)) (fun _ v8 => l.length - (intOf v8).toNat)
  case atStart => exact ⟨0, by omega, rfl, z0⟩
  case round =>
    obtain ⟨k, hk, rfl, HN⟩ := hrel
    clear z0
    by_cases hlt : k < l.length
    · obtain ⟨b, off, rfl, hcell⟩ := hl.get1 hlt
      have hc0 := hI.cell hcell
      by_cases hx : l[k] = 0
      · have hs := Lib.hid ((orI_drop hlt hx).trans HN.out)
        have hx1 : (l[k] != 0) = false := by simp [hx]
        clear hx
        go_wp2
        go_round
        case rel => exact ⟨k + 1, by omega, by go_num, hs⟩
        case measure => simp [intOf]; omega
      · have hs := Lib.hid ((orI_hit hlt hx).symm.trans HN.out)
        have hx1 : (l[k] != 0) = true := by simp [hx]
        clear hx
        go_wp2
        go_ret
        exact ⟨by rw [← hs.out]; rfl, rfl⟩
    · have hs' := Lib.hid ((orI_end (by omega)).symm.trans HN.out)
      go_wp2
      go_ret
      exact ⟨by rw [← hs'.out]; rfl, rfl⟩

set_option maxHeartbeats 1000000 in
theorem valCmp_calls (w : World) (a b : Val) : Calls Tryd.prog 27 #[.agg #[.int .i64 a.kind, .int .i64 a.n, .string a.text], .agg #[.int .i64 b.kind, .int .i64 b.n, .string b.text]] w fun e w' => e = .returned (.int .i64 (valCmp a b)) ∧ Below w.heap.size w w' := by
  go_enter Tryd.func27, Tryd.ntmps27
  go_wp2
  have HB := below_allocS (below_allocS (Below.refl w.heap.size w) (.cells #[.int .i64 a.kind, .int .i64 a.n, .string a.text] 23)) (.cells #[.int .i64 b.kind, .int .i64 b.n, .string b.text] 23)
  have x0 := cellP (o := .cells #[.int .i64 b.kind, .int .i64 b.n, .string b.text] 23) (cellN (w := w) (cs := #[.int .i64 a.kind, .int .i64 a.n, .string a.text]) (t := 23) (fr := (0, 0)) 0 rfl)
  have x1 := cellP (o := .cells #[.int .i64 b.kind, .int .i64 b.n, .string b.text] 23) (cellN (w := w) (cs := #[.int .i64 a.kind, .int .i64 a.n, .string a.text]) (t := 23) (fr := (0, 0)) 1 rfl)
  have x2 := cellP (o := .cells #[.int .i64 b.kind, .int .i64 b.n, .string b.text] 23) (cellN (w := w) (cs := #[.int .i64 a.kind, .int .i64 a.n, .string a.text]) (t := 23) (fr := (0, 0)) 2 rfl)
  have y0 := cellN (w := w.alloc (.cells #[.int .i64 a.kind, .int .i64 a.n, .string a.text] 23)) (cs := #[.int .i64 b.kind, .int .i64 b.n, .string b.text]) (t := 23) (fr := (0, 0)) 0 rfl
  have y1 := cellN (w := w.alloc (.cells #[.int .i64 a.kind, .int .i64 a.n, .string a.text] 23)) (cs := #[.int .i64 b.kind, .int .i64 b.n, .string b.text]) (t := 23) (fr := (0, 0)) 1 rfl
  have y2 := cellN (w := w.alloc (.cells #[.int .i64 a.kind, .int .i64 a.n, .string a.text] 23)) (cs := #[.int .i64 b.kind, .int .i64 b.n, .string b.text]) (t := 23) (fr := (0, 0)) 2 rfl
  simp only [World.size_alloc] at y0 y1 y2
  generalize (w.alloc (.cells #[.int .i64 a.kind, .int .i64 a.n, .string a.text] 23)).alloc (.cells #[.int .i64 b.kind, .int .i64 b.n, .string b.text] 23) = W at *
  refine wp_region_still_tail 15 (by kernel_rfl) (by kernel_rfl) ?_
  simp only [List.take_succ_cons, List.take_zero, List.drop_succ_cons, List.drop_zero]
  repeat still_step
  still_call ((cmpI_calls _ _ _).mono (fun e w' h => ⟨h.1, h.2.symm⟩))
  repeat still_step
  still_call ((cmpI_calls _ _ _).mono (fun e w' h => ⟨h.1, h.2.symm⟩))
  repeat still_step
  still_call ((cmpS_calls _ _ _).mono (fun e w' h => ⟨h.1, h.2.symm⟩))
  refine wpStill_nil ?_
  go_wp2_with fail
  have hcl := fun (W' : World) (hW : W'.heap = (W.alloc (.cells #[.int .i64 (cmpI a.kind b.kind), .int .i64 (cmpI a.n b.n), .int .i64 (cmpS a.text b.text)] 3)).heap) => or_calls (hp W') W' (some ⟨W.heap.size, 0, none⟩) 3 [cmpI a.kind b.kind, cmpI a.n b.n, cmpS a.text b.text] (In.hp _) (Sl.block1 (enc := Value.int .i64) (by unfold hp; rw [hW]; exact heap_alloc_new W _) (by simp) rfl)
  refine (hcl _ (by rfl)).mono ?_
  rintro e w1 ⟨rfl, rfl⟩
  go_wp2
  go_ret
  exact ⟨rfl, (below_allocS HB _).drew⟩

set_option maxHeartbeats 1000000 in
theorem rget_calls (H : PH) (w : World) (l : List Fld) (A : Option Addr) (c : Nat) (name : ByteArray) (hI : In H w) (hl : Sl RFld 4 H A l) :
    Calls Tryd.prog 30 #[.slice A l.length c, .string name] w fun e w' => e = .returned (.tuple #[.agg #[.int .i64 ((getF l name).getD Val.zero).kind, .int .i64 ((getF l name).getD Val.zero).n, .string ((getF l name).getD Val.zero).text], .bool (getF l name).isSome]) ∧ Below w.heap.size w w' := by
  have hm := hl.le
  go_enter Tryd.func30, Tryd.ntmps30
  go_wp2
  have HB := below_allocS (Below.refl w.heap.size w) (.cells #[.int .i64 0, .int .i64 0, .string ⟨#[]⟩] 23)
  have z0 : (w.alloc (.cells #[.int .i64 0, .int .i64 0, .string ⟨#[]⟩] 23)).heap[w.heap.size]? = some (.cells #[.int .i64 0, .int .i64 0, .string ⟨#[]⟩] 23) := heap_alloc_new w _
  generalize w.alloc (.cells #[.int .i64 0, .int .i64 0, .string ⟨#[]⟩] 23) = W at *
  have c0 : W.cell? ⟨w.heap.size, 0, none⟩ = some (.int .i64 0) := by unfold World.cell?; rw [z0]; rfl
  have c1 : W.cell? ⟨w.heap.size, 1, none⟩ = some (.int .i64 0) := by unfold World.cell?; rw [z0]; rfl
  have c2 : W.cell? ⟨w.heap.size, 2, none⟩ = some (.string ⟨#[]⟩) := by unfold World.cell?; rw [z0]; rfl
  have f0 : W.frozen? ⟨w.heap.size, 0, none⟩ = false := by unfold World.frozen?; rw [z0]; rfl
  have f1 : W.frozen? ⟨w.heap.size, 1, none⟩ = false := by unfold World.frozen?; rw [z0]; rfl
  have f2 : W.frozen? ⟨w.heap.size, 2, none⟩ = false := by unfold World.frozen?; rw [z0]; rfl
  clear z0
  go_loop [6] (fun v6 => ∃ k : Nat, k ≤ l.length ∧ v6 = .int .i64 k ∧ NoneYet (fun f : Fld => decide (f.name = name)) l k) (fun v6 => l.length - (intOf v6).toNat)
  case atStart => exact ⟨0, by omega, rfl, fun _ _ h => by omega⟩
  case round =>
    obtain ⟨k, hk, rfl, HN⟩ := hrel
    by_cases hlt : k < l.length
    · obtain ⟨b, off, cs, rfl, hR, hcell⟩ := hl.get hlt
      unfold RFld at hR
      subst hR
      have hc0 := rdW0 hI HB (hcell 0 _ rfl)
      have hc1 := rdW hI HB (hcell 1 _ rfl)
      have hc2 := rdW hI HB (hcell 2 _ rfl)
      have hc3 := rdW hI HB (hcell 3 _ rfl)
      have hbe := beqS l[k].name name
      by_cases hpk : l[k].name = name
      · have ht : (l[k].name.toList == name.toList) = true := by rw [hbe]; simp [hpk]
        have hg := Lib.hid (getF_hit hlt HN hpk)
        clear hbe hpk HN
        go_wp2
        refine bodyPost_ret (v := .tuple #[.agg #[.int .i64 l[k].val.kind, .int .i64 l[k].val.n, .string l[k].val.text], .bool true]) (by simp [results, Tryd.results30, go_sem, c0, c1, c2]) rfl ⟨?_, ?_⟩
        · rw [hg.out]; rfl
        · repeat (first | exact HB | refine below_allocS ?_ _ | refine Below.setCell ?_ (by simp) _)
      · have ht : (l[k].name.toList == name.toList) = false := by rw [hbe]; simp [hpk]
        have hn := HN.step hlt (by simp [hpk])
        clear hbe hpk HN
        go_wp2
        go_round
        case rel => exact ⟨k + 1, by omega, by go_num, hn⟩
        case measure => simp [intOf]; omega
    · have hg := Lib.hid (getF_miss (name := name) (fun j hj => HN j hj (by omega)))
      clear HN
      go_wp2
      refine bodyPost_ret (v := .tuple #[.agg #[.int .i64 0, .int .i64 0, .string ⟨#[]⟩], .bool false]) (by simp [results, Tryd.results30, go_sem, c0, c1, c2]) rfl ⟨?_, ?_⟩
      · rw [hg.out]; rfl
      · repeat (first | exact HB | refine below_allocS ?_ _ | refine Below.setCell ?_ (by simp) _)
end Go.Proofs.YteoeahmfpohpeaaDoor
