/- Walks: lodestarref05.Compare; lodestarref16.Passes. -/
import Derived.Test.YteoeahmfpohpeaaDoorWalkJ
namespace Go.Proofs.YteoeahmfpohpeaaDoor
open Go.RowKit Go.Shelf
set_option maxRecDepth 100000
set_option linter.unusedVariables false
set_option linter.unusedSimpArgs false

theorem vc_lt1 {a b : Val} (h : a.kind < b.kind) : valCmp a b = -1 := by simp [valCmp, orI, cmpI, h]
theorem vc_gt1 {a b : Val} (h : b.kind < a.kind) : valCmp a b = 1 := by
  have : ¬ a.kind < b.kind := by omega
  simp [valCmp, orI, cmpI, h, this]
theorem vc_lt2 {a b : Val} (e : a.kind = b.kind) (h : a.n < b.n) : valCmp a b = -1 := by simp [valCmp, orI, cmpI, h, e]
theorem vc_gt2 {a b : Val} (e : a.kind = b.kind) (h : b.n < a.n) : valCmp a b = 1 := by
  have : ¬ a.n < b.n := by omega
  simp [valCmp, orI, cmpI, h, e, this]
theorem vc_eq2 {a b : Val} (e : a.kind = b.kind) (e2 : a.n = b.n) : valCmp a b = cmpS a.text b.text := by
  simp [valCmp, orI, cmpI, e, e2]; intro h; exact h.symm
set_option maxHeartbeats 1000000 in
theorem rcmp_calls (w : World) (a b : Val) : Calls Tryd.prog 31 #[.agg #[.int .i64 a.kind, .int .i64 a.n, .string a.text], .agg #[.int .i64 b.kind, .int .i64 b.n, .string b.text]] w fun e w' => e = .returned (.int .i64 (valCmp a b)) ∧ Below w.heap.size w w' := by
  by_cases h1 : a.kind < b.kind
  · have hv := Lib.hid (vc_lt1 h1)
    go_enter Tryd.func31, Tryd.ntmps31
    go_wp2
    go_ret
    exact ⟨by rw [hv.out]; rfl, below_allocS (below_allocS (Below.refl _ _) _) _⟩
  · by_cases h2 : b.kind < a.kind
    · have hv := Lib.hid (vc_gt1 h2)
      go_enter Tryd.func31, Tryd.ntmps31
      go_wp2
      go_ret
      exact ⟨by rw [hv.out]; rfl, below_allocS (below_allocS (Below.refl _ _) _) _⟩
    · have e1 : a.kind = b.kind := by omega
      by_cases h3 : a.n < b.n
      · have hv := Lib.hid (vc_lt2 e1 h3)
        have he1 := Lib.hid e1
        clear e1
        go_enter Tryd.func31, Tryd.ntmps31
        go_wp2
        go_ret
        exact ⟨by rw [hv.out]; rfl, below_allocS (below_allocS (Below.refl _ _) _) _⟩
      · by_cases h4 : b.n < a.n
        · have hv := Lib.hid (vc_gt2 e1 h4)
          have he1 := Lib.hid e1
          clear e1
          go_enter Tryd.func31, Tryd.ntmps31
          go_wp2
          go_ret
          exact ⟨by rw [hv.out]; rfl, below_allocS (below_allocS (Below.refl _ _) _) _⟩
        · have e2 : a.n = b.n := by omega
          have hc := vc_eq2 e1 e2
          have he1 := Lib.hid e1
          have he2 := Lib.hid e2
          clear e1 e2
          cases h5 : Op.bytesLess a.text.toList b.text.toList
          · cases h6 : (a.text.toList == b.text.toList)
            · have hv := Lib.hid (hc.trans (show cmpS a.text b.text = 1 by simp [cmpS, h5, h6]))
              clear hc
              go_enter Tryd.func31, Tryd.ntmps31
              go_wp2
              go_ret
              exact ⟨by rw [hv.out]; rfl, below_allocS (below_allocS (Below.refl _ _) _) _⟩
            · have hv := Lib.hid (hc.trans (show cmpS a.text b.text = 0 by simp [cmpS, h5, h6]))
              clear hc
              go_enter Tryd.func31, Tryd.ntmps31
              go_wp2
              go_ret
              exact ⟨by rw [hv.out]; rfl, below_allocS (below_allocS (Below.refl _ _) _) _⟩
          · have hv := Lib.hid (hc.trans (show cmpS a.text b.text = -1 by simp [cmpS, h5]))
            clear hc
            go_enter Tryd.func31, Tryd.ntmps31
            go_wp2
            go_ret
            exact ⟨by rw [hv.out]; rfl, below_allocS (below_allocS (Below.refl _ _) _) _⟩

set_option maxHeartbeats 2000000 in
theorem rpasses_true (H : PH) (w : World) (nm : ByteArray) (v : Val) (lo hi : Int) (L : Value) (p : Pt) (V F : Value) (hI : In H w) (hL : L.oneCell' = true) (hV : V.oneCell' = true) (hF : RSl RFld 4 H p.flds F) :
    Calls Tryd.prog 19 #[.agg (cCells 1 nm v lo hi L).toArray, .agg #[.int .i64 p.id, V, F]] w (PassPost w (true)) := by
  obtain ⟨A, c, rfl, _, hl⟩ := hF
  have hg := fun W hW => (rget_calls H W p.flds A c nm hW hl)
  go_enter Tryd.func19, Tryd.ntmps19
  go_wp2_with (go_at_call 30; go_must (refine (hg _ (hI.below (by repeat (first | exact Below.refl _ _ | refine below_allocS ?_ _)))).mono ?_; rintro e w1 ⟨rfl, hb⟩; obtain ⟨hc, hf⟩ := bcell hb; have HB1 := below_step (w := w) hb (by repeat (first | exact Below.refl _ _ | refine below_allocS ?_ _)); have hz1 : w.heap.size + 1 < w1.heap.size := Nat.lt_of_lt_of_le (by simp) hb.size; have hz0 : w.heap.size < w1.heap.size := by omega))
  go_ret
  exact ⟨by rfl, by repeat (first | exact HB1 | refine below_allocS ?_ _ | refine Below.setCell ?_ (by simp; omega) _)⟩

set_option maxHeartbeats 2000000 in
theorem rpasses_has (H : PH) (w : World) (nm : ByteArray) (v : Val) (lo hi : Int) (L : Value) (p : Pt) (V F : Value) (hI : In H w) (hL : L.oneCell' = true) (hV : V.oneCell' = true) (hF : RSl RFld 4 H p.flds F) :
    Calls Tryd.prog 19 #[.agg (cCells 3 nm v lo hi L).toArray, .agg #[.int .i64 p.id, V, F]] w (PassPost w ((getF p.flds nm).isSome)) := by
  obtain ⟨A, c, rfl, _, hl⟩ := hF
  have hg := fun W hW => (rget_calls H W p.flds A c nm hW hl)
  go_enter Tryd.func19, Tryd.ntmps19
  go_wp2_with (go_at_call 30; go_must (refine (hg _ (hI.below (by repeat (first | exact Below.refl _ _ | refine below_allocS ?_ _)))).mono ?_; rintro e w1 ⟨rfl, hb⟩; obtain ⟨hc, hf⟩ := bcell hb; have HB1 := below_step (w := w) hb (by repeat (first | exact Below.refl _ _ | refine below_allocS ?_ _)); have hz1 : w.heap.size + 1 < w1.heap.size := Nat.lt_of_lt_of_le (by simp) hb.size; have hz0 : w.heap.size < w1.heap.size := by omega))
  go_ret
  exact ⟨by rfl, by repeat (first | exact HB1 | refine below_allocS ?_ _ | refine Below.setCell ?_ (by simp; omega) _)⟩

set_option maxHeartbeats 2000000 in
theorem rpasses_none (H : PH) (w : World) (k : Int) (nm : ByteArray) (v : Val) (lo hi : Int) (L : Value) (p : Pt) (V F : Value) (hI : In H w) (hL : L.oneCell' = true) (hV : V.oneCell' = true) (hF : RSl RFld 4 H p.flds F) (h1 : (k == 1) = false) (h3 : (k == 3) = false) (h4 : (k == 4) = false) (h5 : (k == 5) = false) (h6 : (k == 6) = false) (h7 : (k == 7) = false) (h8 : (k == 8) = false) :
    Calls Tryd.prog 19 #[.agg (cCells k nm v lo hi L).toArray, .agg #[.int .i64 p.id, V, F]] w (PassPost w (false)) := by
  obtain ⟨A, c, rfl, _, hl⟩ := hF
  have hg := fun W hW => (rget_calls H W p.flds A c nm hW hl)
  go_enter Tryd.func19, Tryd.ntmps19
  go_wp2_with (go_at_call 30; go_must (refine (hg _ (hI.below (by repeat (first | exact Below.refl _ _ | refine below_allocS ?_ _)))).mono ?_; rintro e w1 ⟨rfl, hb⟩; obtain ⟨hc, hf⟩ := bcell hb; have HB1 := below_step (w := w) hb (by repeat (first | exact Below.refl _ _ | refine below_allocS ?_ _)); have hz1 : w.heap.size + 1 < w1.heap.size := Nat.lt_of_lt_of_le (by simp) hb.size; have hz0 : w.heap.size < w1.heap.size := by omega))
  go_ret
  exact ⟨by rfl, by repeat (first | exact HB1 | refine below_allocS ?_ _ | refine Below.setCell ?_ (by simp; omega) _)⟩

set_option maxHeartbeats 2000000 in
theorem rpasses_is (H : PH) (w : World) (nm : ByteArray) (v : Val) (lo hi : Int) (L : Value) (p : Pt) (V F : Value) (hI : In H w) (hL : L.oneCell' = true) (hV : V.oneCell' = true) (hF : RSl RFld 4 H p.flds F) :
    Calls Tryd.prog 19 #[.agg (cCells 4 nm v lo hi L).toArray, .agg #[.int .i64 p.id, V, F]] w (PassPost w (match getF p.flds nm with | some x => x == v | none => false)) := by
  obtain ⟨A, c, rfl, _, hl⟩ := hF
  cases hgf : getF p.flds nm with
  | none =>
    have hg := fun W hW => (rget_calls H W p.flds A c nm hW hl)
    rw [hgf] at hg
    clear hgf
    go_enter Tryd.func19, Tryd.ntmps19
    go_wp2_with (go_at_call 30; go_must (refine (hg _ (hI.below (by repeat (first | exact Below.refl _ _ | refine below_allocS ?_ _)))).mono ?_; rintro e w1 ⟨rfl, hb⟩; obtain ⟨hc, hf⟩ := bcell hb; have HB1 := below_step (w := w) hb (by repeat (first | exact Below.refl _ _ | refine below_allocS ?_ _)); have hz1 : w.heap.size + 1 < w1.heap.size := Nat.lt_of_lt_of_le (by simp) hb.size; have hz0 : w.heap.size < w1.heap.size := by omega))
    go_ret
    exact ⟨by rfl, by repeat (first | exact HB1 | refine below_allocS ?_ _ | refine Below.setCell ?_ (by simp; omega) _)⟩
  | some x =>
    have hg := fun W hW => (rget_calls H W p.flds A c nm hW hl)
    rw [hgf] at hg
    clear hgf
    go_enter Tryd.func19, Tryd.ntmps19
    go_wp2_with (first | (go_at_call 30; go_must (refine (hg _ (hI.below (by repeat (first | exact Below.refl _ _ | refine below_allocS ?_ _)))).mono ?_; rintro e w1 ⟨rfl, hb⟩; obtain ⟨hc, hf⟩ := bcell hb; have HB1 := below_step (w := w) hb (by repeat (first | exact Below.refl _ _ | refine below_allocS ?_ _)); have hz1 : w.heap.size + 1 < w1.heap.size := Nat.lt_of_lt_of_le (by simp) hb.size; have hz0 : w.heap.size < w1.heap.size := by omega)) | (go_at_call 31; go_must (refine (rcmp_calls _ x v).mono ?_; rintro e w2 ⟨rfl, hb2⟩; have HB2 := below_step (w := w) hb2 (by repeat (first | exact HB1 | refine below_allocS ?_ _ | refine Below.setCell ?_ (by simp; omega) _)))))
    go_ret
    refine ⟨?_, by repeat (first | exact HB2 | refine below_allocS ?_ _ | refine Below.setCell ?_ (by simp) _)⟩
    have hz : (valCmp x v == 0) = (x == v) := by rw [Bool.eq_iff_iff, beq_iff_eq, beq_iff_eq]; exact valCmp_zero x v
    rw [← hz]
    rfl

set_option maxHeartbeats 2000000 in
theorem rpasses_in (H : PH) (w : World) (nm : ByteArray) (v : Val) (lo hi : Int) (L : Value) (p : Pt) (V F : Value) (hI : In H w) (hL : L.oneCell' = true) (hV : V.oneCell' = true) (hF : RSl RFld 4 H p.flds F) :
    Calls Tryd.prog 19 #[.agg (cCells 5 nm v lo hi L).toArray, .agg #[.int .i64 p.id, V, F]] w (PassPost w (match getF p.flds nm with | some x => x.kind == 1 && decide (lo ≤ x.n) && decide (x.n ≤ hi) | none => false)) := by
  obtain ⟨A, c, rfl, _, hl⟩ := hF
  cases hgf : getF p.flds nm with
  | none =>
    have hg := fun W hW => (rget_calls H W p.flds A c nm hW hl)
    rw [hgf] at hg
    clear hgf
    go_enter Tryd.func19, Tryd.ntmps19
    go_wp2_with (go_at_call 30; go_must (refine (hg _ (hI.below (by repeat (first | exact Below.refl _ _ | refine below_allocS ?_ _)))).mono ?_; rintro e w1 ⟨rfl, hb⟩; obtain ⟨hc, hf⟩ := bcell hb; have HB1 := below_step (w := w) hb (by repeat (first | exact Below.refl _ _ | refine below_allocS ?_ _)); have hz1 : w.heap.size + 1 < w1.heap.size := Nat.lt_of_lt_of_le (by simp) hb.size; have hz0 : w.heap.size < w1.heap.size := by omega))
    go_ret
    exact ⟨by rfl, by repeat (first | exact HB1 | refine below_allocS ?_ _ | refine Below.setCell ?_ (by simp; omega) _)⟩
  | some x =>
    have hg := fun W hW => (rget_calls H W p.flds A c nm hW hl)
    rw [hgf] at hg
    clear hgf
    by_cases hk : x.kind = 1
    · by_cases h1 : lo ≤ x.n
      · have hk' : (x.kind == 1) = true := by simp [hk]
        have hd1 : decide (lo ≤ x.n) = true := by simp [h1]
        have hr : (x.kind == 1 && decide (lo ≤ x.n) && decide (x.n ≤ hi)) = decide (x.n ≤ hi) := by rw [hk', hd1]; rfl
        simp only [hr]
        have HK := Lib.hid hk
        clear hk hr
        go_enter Tryd.func19, Tryd.ntmps19
        go_wp2_with (go_at_call 30; go_must (refine (hg _ (hI.below (by repeat (first | exact Below.refl _ _ | refine below_allocS ?_ _)))).mono ?_; rintro e w1 ⟨rfl, hb⟩; obtain ⟨hc, hf⟩ := bcell hb; have HB1 := below_step (w := w) hb (by repeat (first | exact Below.refl _ _ | refine below_allocS ?_ _)); have hz1 : w.heap.size + 1 < w1.heap.size := Nat.lt_of_lt_of_le (by simp) hb.size; have hz0 : w.heap.size < w1.heap.size := by omega))
        go_ret
        exact ⟨by rfl, by repeat (first | exact HB1 | refine below_allocS ?_ _ | refine Below.setCell ?_ (by simp; omega) _)⟩
      · have hk' : (x.kind == 1) = true := by simp [hk]
        have hd1 : decide (lo ≤ x.n) = false := by simp [h1]
        have hr : (x.kind == 1 && decide (lo ≤ x.n) && decide (x.n ≤ hi)) = false := by rw [hk', hd1]; rfl
        simp only [hr]
        have HK := Lib.hid hk
        clear hk hr
        go_enter Tryd.func19, Tryd.ntmps19
        go_wp2_with (go_at_call 30; go_must (refine (hg _ (hI.below (by repeat (first | exact Below.refl _ _ | refine below_allocS ?_ _)))).mono ?_; rintro e w1 ⟨rfl, hb⟩; obtain ⟨hc, hf⟩ := bcell hb; have HB1 := below_step (w := w) hb (by repeat (first | exact Below.refl _ _ | refine below_allocS ?_ _)); have hz1 : w.heap.size + 1 < w1.heap.size := Nat.lt_of_lt_of_le (by simp) hb.size; have hz0 : w.heap.size < w1.heap.size := by omega))
        go_ret
        exact ⟨by rfl, by repeat (first | exact HB1 | refine below_allocS ?_ _ | refine Below.setCell ?_ (by simp; omega) _)⟩
    · have hk' : (x.kind == 1) = false := by simp [hk]
      have hr : (x.kind == 1 && decide (lo ≤ x.n) && decide (x.n ≤ hi)) = false := by rw [hk']; rfl
      simp only [hr]
      clear hk hr
      go_enter Tryd.func19, Tryd.ntmps19
      go_wp2_with (go_at_call 30; go_must (refine (hg _ (hI.below (by repeat (first | exact Below.refl _ _ | refine below_allocS ?_ _)))).mono ?_; rintro e w1 ⟨rfl, hb⟩; obtain ⟨hc, hf⟩ := bcell hb; have HB1 := below_step (w := w) hb (by repeat (first | exact Below.refl _ _ | refine below_allocS ?_ _)); have hz1 : w.heap.size + 1 < w1.heap.size := Nat.lt_of_lt_of_le (by simp) hb.size; have hz0 : w.heap.size < w1.heap.size := by omega))
      go_ret
      exact ⟨by rfl, by repeat (first | exact HB1 | refine below_allocS ?_ _ | refine Below.setCell ?_ (by simp; omega) _)⟩
end Go.Proofs.YteoeahmfpohpeaaDoor
