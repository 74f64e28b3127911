/- Walks: what the library's variables hold; strconv.Itoa, Atoi; manifest.number, file. -/
import Derived.Test.YteeckkkcebljmaaDoorProg
import Derived.Test.YteeckkkcebljmaaDoorShelf
import Derived.Test.YteeckkkcebljmaaDoorLK
import Derived.Test.YteeckkkcebljmaaDoorMPureB
import Derived.WalkKit
import Derived.WalkLawsBesides
import Derived.WalkSpells
import Derived.LoopTactic
import Derived.Deep.QuietTactic
import Derived.BigQuiet
import Derived.Deep.DeepMust
import Derived.Lib.Hide
namespace Go.Proofs.YteeckkkcebljmaaDoor
open Go.RowKit Go.Shelf Go.Sort
set_option maxRecDepth 100000
set_option linter.unusedVariables false
set_option linter.unusedSimpArgs false

/-- What the library's variables hold. -/
structure GL (H : PH) : Prop where
  syn : ∃ ev t fr, H 2 = some (.cells #[ev] t fr) ∧ (ev = .nilIface ∨ ∃ te pe, ev = .iface te pe)
  ran : ∃ ev t fr, H 3 = some (.cells #[ev] t fr) ∧ (ev = .nilIface ∨ ∃ te pe, ev = .iface te pe)
  tab : ∃ t fr, H 0 = some (.cells (Lib.pow10Tab.map fun z => Value.int .u64 z).toArray t fr)
  mx : ∃ m t fr, H 1 = some (.cells #[.int .i64 m] t fr)
theorem GL.mono {H H' : PH} (h : GL H) (hle : Le H H') : GL H' := by
  obtain ⟨⟨a, b, c, d, e⟩, ⟨a2, b2, c2, d2, e2⟩, ⟨a3, b3, c3⟩, ⟨a4, b4, c4, d4⟩⟩ := h
  exact ⟨⟨a, b, c, hle _ _ d, e⟩, ⟨a2, b2, c2, hle _ _ d2, e2⟩, ⟨a3, b3, hle _ _ c3⟩, ⟨a4, b4, c4, hle _ _ d4⟩⟩
theorem In.one {H : PH} {w : World} {b : Nat} {v : Value} {t : TypeId} {fr : Nat × Nat} (hI : In H w) (h : H b = some (.cells #[v] t fr)) : w.cell? ⟨b, 0, none⟩ = some v := hI.cell (by unfold cellH; rw [h]; rfl)
theorem below_grow (w : World) (k : Nat) (os : Array Obj) : Below w.heap.size w (grow (w.drewN k) os) :=
  ⟨rfl, rfl, rfl, by simp [grow, World.drewN], fun i hi => by simp only [grow, World.drewN]; rw [Array.getElem?_append_left hi]⟩
theorem GL.tabIs {H : PH} {w : World} (h : GL H) (hI : In H w) : Lib.TabIs Tryd.prog w "internal/strconv.uint64pow10" .u64 Lib.pow10Tab := by
  obtain ⟨t, fr, e⟩ := h.tab
  unfold Lib.TabIs World.var?
  rw [show Tryd.prog.globalNamed "internal/strconv.uint64pow10" = some 0 by kernel_rfl]
  simp only [Option.bind_some, hI _ _ e]
theorem itoa_calls (H : PH) (hG : GL H) (w : World) (hI : In H w) (n : Int) (h0 : -9223372036854775808 ≤ n) (h1 : n ≤ 9223372036854775807) :
    Calls Tryd.prog 13 #[.int .i64 n] w fun e w' => e = .returned (.string (toB (Lib.itoa n))) ∧ Below w.heap.size w w' :=
  (Tryd.strconv_Itoa n h0 h1 w (hG.tabIs hI)).mono fun e w' ⟨he, k, os, hw⟩ => ⟨he, hw ▸ below_grow w k os⟩
/-- Atoi: the number; the error is nil where there is a numeral. -/
theorem atoi_ok (w : World) (s : ByteArray) (hs : s.size ≤ 140737488355328) (v : Int) (h : Lib.atoiAll (bl s) = .ok v) :
    Calls Tryd.prog 27 #[.string s] w fun e w' => e = .returned (.tuple #[.int .i64 v, .nilIface]) ∧ Below w.heap.size w w' :=
  (Tryd.strconv_Atoi_ok s (by omega) v h w).mono fun e w' ⟨he, hw⟩ => ⟨he, by
    rcases hw with rfl | ⟨t, rfl⟩
    · exact Below.refl _ _
    · exact Lib.bytesWorld_below _ _ _⟩
theorem atoi_bad (H : PH) (hG : GL H) (w : World) (hI : In H w) (s : ByteArray) (hs : s.size ≤ 140737488355328) (h : ∀ v, Lib.atoiAll (bl s) ≠ .ok v) :
    Calls Tryd.prog 27 #[.string s] w fun e w' => (∃ N, e = .returned (.tuple #[.int .i64 (numP (bl s)).1, .iface 77 (.pointer (some ⟨N, 0, none⟩))])) ∧ Below w.heap.size w w' := by
  cases ha : Lib.atoiAll (bl s) with
  | ok v => exact absurd ha (h v)
  | range =>
    obtain ⟨ev, t, fr, e1, e2⟩ := hG.ran
    refine (Tryd.strconv_Atoi_range s (by omega) ha ev w (hI.one e1) e2).mono ?_
    rintro e w' ⟨N, he, _, _, hb⟩
    exact ⟨⟨N, by rw [he]; unfold numP; rw [ha]; rfl⟩, hb⟩
  | _ =>
    obtain ⟨ev, t, fr, e1, e2⟩ := hG.syn
    refine (Tryd.strconv_Atoi_syntax s (by omega) ha ev w (hI.one e1) e2).mono ?_
    rintro e w' ⟨N, he, _, _, hb⟩
    exact ⟨⟨N, by rw [he]; unfold numP; rw [ha]⟩, hb⟩
theorem toB_beq (l : Str) (s : ByteArray) : ((toB l).toList == s.toList) = decide (l = bl s) := by
  rw [Bool.eq_iff_iff, Lib.bytes_beq_iff, decide_eq_true_iff]
  constructor
  · intro h; rw [← h, bl_toB]
  · intro h; rw [h, toB_bl]
set_option maxHeartbeats 1000000 in
theorem number_calls (H : PH) (hG : GL H) (w : World) (hI : In H w) (s : ByteArray) (hs : s.size ≤ 140737488355328) :
    Calls Tryd.prog 19 #[.string s] w fun e w' => e = .returned (.tuple #[.int .i64 (numP (bl s)).1, .bool (numP (bl s)).2]) ∧ Below w.heap.size w w' := by
  by_cases hok : ∃ v, Lib.atoiAll (bl s) = .ok v
  · obtain ⟨v, hv⟩ := hok
    have hb := Lib.atoiAll_bounds hv
    have hn : numP (bl s) = (v, decide (0 ≤ v) && decide (Lib.itoa v = bl s)) := by unfold numP; rw [hv]
    have hA := Lib.hid (atoi_ok w s hs v hv)
    have hN := Lib.hid hn
    clear hv hn
    by_cases h0 : 0 ≤ v
    · go_enter Tryd.func19, Tryd.ntmps19
      go_wp2_with (first
        | (go_at_call 27; go_must (refine hA.out.mono ?_; rintro e w1 ⟨rfl, hb1⟩; have HB1 := Lib.hid hb1; clear hb1))
        | (go_at_call 13; go_must (refine (itoa_calls H hG w1 (hI.below HB1.out) v (by omega) (by omega)).mono ?_; rintro e w2 ⟨rfl, hb2⟩; have HB2 := Lib.hid (below_step hb2 HB1.out); clear hb2)))
      go_ret2
      refine ⟨?_, HB2.out⟩
      rw [hN.out]
      simp [h0, toB_beq]
    · go_enter Tryd.func19, Tryd.ntmps19
      go_wp2_with (first
        | (go_at_call 27; go_must (refine hA.out.mono ?_; rintro e w1 ⟨rfl, hb1⟩; have HB1 := Lib.hid hb1; clear hb1)))
      go_ret2
      refine ⟨?_, HB1.out⟩
      rw [hN.out]
      have e0 : decide (0 ≤ v) = false := by simp; omega
      simp [e0]
  · have hA := Lib.hid (atoi_bad H hG w hI s hs (fun v h => hok ⟨v, h⟩))
    have h2 : (numP (bl s)).2 = false := by
      unfold numP
      cases ha : Lib.atoiAll (bl s) with
      | ok v => exact absurd ⟨v, ha⟩ hok
      | _ => rfl
    have hN := Lib.hid h2
    have hbd := numP_bounds (bl s)
    clear h2 hok
    generalize (numP (bl s)).1 = v at *
    go_enter Tryd.func19, Tryd.ntmps19
    go_wp2_with (first
      | (go_at_call 27; go_must (refine hA.out.mono ?_; rintro e w1 ⟨⟨N, rfl⟩, hb1⟩; have HB1 := Lib.hid hb1; clear hb1)))
    go_ret2
    refine ⟨?_, HB1.out⟩
    rw [hN.out]
    rfl
end Go.Proofs.YteeckkkcebljmaaDoor
