/- Walks: filter.Passes, by kinds. -/
import Derived.Test.YteoeahmfpohpeaaDoorWalkB
namespace Go.Proofs.YteoeahmfpohpeaaDoor
open Go.RowKit Go.Shelf
set_option maxRecDepth 100000
set_option linter.unusedVariables false
set_option linter.unusedSimpArgs false

theorem ta_always_always (v : Value) (w : World) : (Instr.typeAssert (.iface 60 v) 58 60 true).run Tryd.prog w = .ok (.tuple #[v, .bool true]) w := by kernel_rfl
theorem ta_has_always (v : Value) (w : World) : (Instr.typeAssert (.iface 61 v) 58 60 true).run Tryd.prog w = .ok (.tuple #[.bool false, .bool false]) w := by kernel_rfl
theorem ta_has_has (v : Value) (w : World) : (Instr.typeAssert (.iface 61 v) 58 61 true).run Tryd.prog w = .ok (.tuple #[v, .bool true]) w := by kernel_rfl
theorem ta_is_always (v : Value) (w : World) : (Instr.typeAssert (.iface 64 v) 58 60 true).run Tryd.prog w = .ok (.tuple #[.bool false, .bool false]) w := by kernel_rfl
theorem ta_is_has (v : Value) (w : World) : (Instr.typeAssert (.iface 64 v) 58 61 true).run Tryd.prog w = .ok (.tuple #[.string ⟨#[]⟩, .bool false]) w := by kernel_rfl
theorem ta_is_is (v : Value) (w : World) : (Instr.typeAssert (.iface 64 v) 58 64 true).run Tryd.prog w = .ok (.tuple #[v, .bool true]) w := by kernel_rfl
theorem ta_within_always (v : Value) (w : World) : (Instr.typeAssert (.iface 67 v) 58 60 true).run Tryd.prog w = .ok (.tuple #[.bool false, .bool false]) w := by kernel_rfl
theorem ta_within_has (v : Value) (w : World) : (Instr.typeAssert (.iface 67 v) 58 61 true).run Tryd.prog w = .ok (.tuple #[.string ⟨#[]⟩, .bool false]) w := by kernel_rfl
theorem ta_within_is (v : Value) (w : World) : (Instr.typeAssert (.iface 67 v) 58 64 true).run Tryd.prog w = .ok (.tuple #[.agg #[.string ⟨#[]⟩, .int .i64 0, .int .i64 0, .string ⟨#[]⟩], .bool false]) w := by kernel_rfl
theorem ta_within_within (v : Value) (w : World) : (Instr.typeAssert (.iface 67 v) 58 67 true).run Tryd.prog w = .ok (.tuple #[v, .bool true]) w := by kernel_rfl
theorem ta_not_always (v : Value) (w : World) : (Instr.typeAssert (.iface 68 v) 58 60 true).run Tryd.prog w = .ok (.tuple #[.bool false, .bool false]) w := by kernel_rfl
theorem ta_not_has (v : Value) (w : World) : (Instr.typeAssert (.iface 68 v) 58 61 true).run Tryd.prog w = .ok (.tuple #[.string ⟨#[]⟩, .bool false]) w := by kernel_rfl
theorem ta_not_is (v : Value) (w : World) : (Instr.typeAssert (.iface 68 v) 58 64 true).run Tryd.prog w = .ok (.tuple #[.agg #[.string ⟨#[]⟩, .int .i64 0, .int .i64 0, .string ⟨#[]⟩], .bool false]) w := by kernel_rfl
theorem ta_not_within (v : Value) (w : World) : (Instr.typeAssert (.iface 68 v) 58 67 true).run Tryd.prog w = .ok (.tuple #[.agg #[.string ⟨#[]⟩, .int .i64 0, .int .i64 0], .bool false]) w := by kernel_rfl
theorem ta_not_not (v : Value) (w : World) : (Instr.typeAssert (.iface 68 v) 58 68 true).run Tryd.prog w = .ok (.tuple #[v, .bool true]) w := by kernel_rfl
theorem ta_all_always (v : Value) (w : World) : (Instr.typeAssert (.iface 69 v) 58 60 true).run Tryd.prog w = .ok (.tuple #[.bool false, .bool false]) w := by kernel_rfl
theorem ta_all_has (v : Value) (w : World) : (Instr.typeAssert (.iface 69 v) 58 61 true).run Tryd.prog w = .ok (.tuple #[.string ⟨#[]⟩, .bool false]) w := by kernel_rfl
theorem ta_all_is (v : Value) (w : World) : (Instr.typeAssert (.iface 69 v) 58 64 true).run Tryd.prog w = .ok (.tuple #[.agg #[.string ⟨#[]⟩, .int .i64 0, .int .i64 0, .string ⟨#[]⟩], .bool false]) w := by kernel_rfl
theorem ta_all_within (v : Value) (w : World) : (Instr.typeAssert (.iface 69 v) 58 67 true).run Tryd.prog w = .ok (.tuple #[.agg #[.string ⟨#[]⟩, .int .i64 0, .int .i64 0], .bool false]) w := by kernel_rfl
theorem ta_all_not (v : Value) (w : World) : (Instr.typeAssert (.iface 69 v) 58 68 true).run Tryd.prog w = .ok (.tuple #[.slice none 0 0, .bool false]) w := by kernel_rfl
theorem ta_all_all (v : Value) (w : World) : (Instr.typeAssert (.iface 69 v) 58 69 true).run Tryd.prog w = .ok (.tuple #[v, .bool true]) w := by kernel_rfl
theorem ta_any_always (v : Value) (w : World) : (Instr.typeAssert (.iface 70 v) 58 60 true).run Tryd.prog w = .ok (.tuple #[.bool false, .bool false]) w := by kernel_rfl
theorem ta_any_has (v : Value) (w : World) : (Instr.typeAssert (.iface 70 v) 58 61 true).run Tryd.prog w = .ok (.tuple #[.string ⟨#[]⟩, .bool false]) w := by kernel_rfl
theorem ta_any_is (v : Value) (w : World) : (Instr.typeAssert (.iface 70 v) 58 64 true).run Tryd.prog w = .ok (.tuple #[.agg #[.string ⟨#[]⟩, .int .i64 0, .int .i64 0, .string ⟨#[]⟩], .bool false]) w := by kernel_rfl
theorem ta_any_within (v : Value) (w : World) : (Instr.typeAssert (.iface 70 v) 58 67 true).run Tryd.prog w = .ok (.tuple #[.agg #[.string ⟨#[]⟩, .int .i64 0, .int .i64 0], .bool false]) w := by kernel_rfl
theorem ta_any_not (v : Value) (w : World) : (Instr.typeAssert (.iface 70 v) 58 68 true).run Tryd.prog w = .ok (.tuple #[.slice none 0 0, .bool false]) w := by kernel_rfl
theorem ta_any_all (v : Value) (w : World) : (Instr.typeAssert (.iface 70 v) 58 69 true).run Tryd.prog w = .ok (.tuple #[.slice none 0 0, .bool false]) w := by kernel_rfl
theorem ta_any_any (v : Value) (w : World) : (Instr.typeAssert (.iface 70 v) 58 70 true).run Tryd.prog w = .ok (.tuple #[v, .bool true]) w := by kernel_rfl
theorem ta_nil_always (w : World) : (Instr.typeAssert .nilIface 58 60 true).run Tryd.prog w = .ok (.tuple #[.bool false, .bool false]) w := by kernel_rfl
theorem ta_nil_has (w : World) : (Instr.typeAssert .nilIface 58 61 true).run Tryd.prog w = .ok (.tuple #[.string ⟨#[]⟩, .bool false]) w := by kernel_rfl
theorem ta_nil_is (w : World) : (Instr.typeAssert .nilIface 58 64 true).run Tryd.prog w = .ok (.tuple #[.agg #[.string ⟨#[]⟩, .int .i64 0, .int .i64 0, .string ⟨#[]⟩], .bool false]) w := by kernel_rfl
theorem ta_nil_within (w : World) : (Instr.typeAssert .nilIface 58 67 true).run Tryd.prog w = .ok (.tuple #[.agg #[.string ⟨#[]⟩, .int .i64 0, .int .i64 0], .bool false]) w := by kernel_rfl
theorem ta_nil_not (w : World) : (Instr.typeAssert .nilIface 58 68 true).run Tryd.prog w = .ok (.tuple #[.slice none 0 0, .bool false]) w := by kernel_rfl
theorem ta_nil_all (w : World) : (Instr.typeAssert .nilIface 58 69 true).run Tryd.prog w = .ok (.tuple #[.slice none 0 0, .bool false]) w := by kernel_rfl
theorem ta_nil_any (w : World) : (Instr.typeAssert .nilIface 58 70 true).run Tryd.prog w = .ok (.tuple #[.slice none 0 0, .bool false]) w := by kernel_rfl
attribute [local go_sem] ta_always_always ta_has_always ta_has_has ta_is_always ta_is_has ta_is_is ta_within_always ta_within_has ta_within_is ta_within_within ta_not_always ta_not_has ta_not_is ta_not_within ta_not_not ta_all_always ta_all_has ta_all_is ta_all_within ta_all_not ta_all_all ta_any_always ta_any_has ta_any_is ta_any_within ta_any_not ta_any_all ta_any_any ta_nil_always ta_nil_has ta_nil_is ta_nil_within ta_nil_not ta_nil_all ta_nil_any

/-- The cells of a condition. -/
abbrev cCells (k : Int) (nm : ByteArray) (v : Val) (lo hi : Int) (L : Value) : List Value := [.int .i64 k, .string nm, .int .i64 v.kind, .int .i64 v.n, .string v.text, .int .i64 lo, .int .i64 hi, L]
def PassPost (w : World) (r : Bool) (e : Ending) (w' : World) : Prop := e = .returned (.bool r) ∧ Below w.heap.size w w'

set_option maxHeartbeats 1000000 in
theorem passes_has (H : PH) (w : World) (nm : ByteArray) (v : Val) (lo hi : Int) (L : Value) (p : Pt) (V F : Value) (hI : In H w) (hL : L.oneCell' = true) (hV : V.oneCell' = true) (hF : RSl RFld 4 H p.flds F) :
    Calls Tryd.prog 10 #[.agg (cCells 3 nm v lo hi L).toArray, .agg #[.int .i64 p.id, V, F]] w (PassPost w (getF p.flds nm).isSome) := by
  obtain ⟨A, c, rfl, _, hl⟩ := hF
  go_enter Tryd.func10, Tryd.ntmps10
  go_wp2_with (first | (go_at_call 25; go_in) | (go_at_call 26; go_must (refine (get_calls H _ p.flds A c _ (hI.below (by repeat (first | exact Below.refl _ _ | refine below_allocS ?_ _))) hl).mono ?_; rintro e w1 ⟨rfl, hb⟩; obtain ⟨hc, hf⟩ := bcell hb; have HB1 := below_step (w := w) hb (by repeat (first | exact Below.refl _ _ | refine below_allocS ?_ _)))))
  go_ret
  exact ⟨rfl, by repeat (first | exact HB1 | refine below_allocS ?_ _ | refine Below.setCell ?_ (by simp) _)⟩

set_option maxHeartbeats 1000000 in
theorem passes_true (w : World) (nm : ByteArray) (v : Val) (lo hi : Int) (L : Value) (i : Int) (V F : Value) (hL : L.oneCell' = true) (hV : V.oneCell' = true) (hF : F.oneCell' = true) :
    Calls Tryd.prog 10 #[.agg (cCells 1 nm v lo hi L).toArray, .agg #[.int .i64 i, V, F]] w (PassPost w true) := by
  go_enter Tryd.func10, Tryd.ntmps10
  go_wp2_with (first | (go_at_call 25; go_in))
  go_ret
  exact ⟨rfl, by repeat (first | exact Below.refl _ _ | refine below_allocS ?_ _ | refine Below.setCell ?_ (by simp) _)⟩
set_option maxHeartbeats 1000000 in
theorem passes_false (w : World) (nm : ByteArray) (v : Val) (lo hi : Int) (L : Value) (i : Int) (V F : Value) (hL : L.oneCell' = true) (hV : V.oneCell' = true) (hF : F.oneCell' = true) :
    Calls Tryd.prog 10 #[.agg (cCells 2 nm v lo hi L).toArray, .agg #[.int .i64 i, V, F]] w (PassPost w false) := by
  go_enter Tryd.func10, Tryd.ntmps10
  go_wp2_with (first | (go_at_call 25; go_in))
  go_ret
  exact ⟨rfl, by repeat (first | exact Below.refl _ _ | refine below_allocS ?_ _ | refine Below.setCell ?_ (by simp) _)⟩
set_option maxHeartbeats 2000000 in
theorem passes_none (w : World) (k : Int) (nm : ByteArray) (v : Val) (lo hi : Int) (L : Value) (i : Int) (V F : Value) (hL : L.oneCell' = true) (hV : V.oneCell' = true) (hF : F.oneCell' = true) (h1 : (k == 1) = false) (h2 : (k == 2) = false) (h3 : (k == 3) = false) (h4 : (k == 4) = false) (h5 : (k == 5) = false) (h6 : (k == 6) = false) (h7 : (k == 7) = false) (h8 : (k == 8) = false) :
    Calls Tryd.prog 10 #[.agg (cCells k nm v lo hi L).toArray, .agg #[.int .i64 i, V, F]] w (PassPost w false) := by
  go_enter Tryd.func10, Tryd.ntmps10
  go_wp2_with (first | (go_at_call 25; go_in))
  go_ret
  exact ⟨rfl, by repeat (first | exact Below.refl _ _ | refine below_allocS ?_ _ | refine Below.setCell ?_ (by simp) _)⟩
set_option maxHeartbeats 2000000 in
theorem passes_is (H : PH) (w : World) (nm : ByteArray) (v : Val) (lo hi : Int) (L : Value) (p : Pt) (V F : Value) (hI : In H w) (hL : L.oneCell' = true) (hV : V.oneCell' = true) (hF : RSl RFld 4 H p.flds F) :
    Calls Tryd.prog 10 #[.agg (cCells 4 nm v lo hi L).toArray, .agg #[.int .i64 p.id, V, F]] w (PassPost w (match getF p.flds nm with | some x => x == v | none => false)) := by
  obtain ⟨A, c, rfl, _, hl⟩ := hF
  have hg := get_calls H
  cases hgf : getF p.flds nm with
  | none =>
    have hg := fun W hW => (get_calls H W p.flds A c nm hW hl)
    rw [hgf] at hg
    clear hgf
    go_enter Tryd.func10, Tryd.ntmps10
    go_wp2_with (first | (go_at_call 25; go_in) | (go_at_call 26; go_must (refine (hg _ (hI.below (by repeat (first | exact Below.refl _ _ | refine below_allocS ?_ _)))).mono ?_; rintro e w1 ⟨rfl, hb⟩; obtain ⟨hc, hf⟩ := bcell hb; have HB1 := below_step (w := w) hb (by repeat (first | exact Below.refl _ _ | refine below_allocS ?_ _)))))
    go_ret
    exact ⟨rfl, by repeat (first | exact HB1 | refine below_allocS ?_ _ | refine Below.setCell ?_ (by simp) _)⟩
  | some x =>
    have hg := fun W hW => (get_calls H W p.flds A c nm hW hl)
    rw [hgf] at hg
    clear hgf
    go_enter Tryd.func10, Tryd.ntmps10
    go_wp2_with (first | (go_at_call 25; go_in) | (go_at_call 26; go_must (refine (hg _ (hI.below (by repeat (first | exact Below.refl _ _ | refine below_allocS ?_ _)))).mono ?_; rintro e w1 ⟨rfl, hb⟩; obtain ⟨hc, hf⟩ := bcell hb; have HB1 := below_step (w := w) hb (by repeat (first | exact Below.refl _ _ | refine below_allocS ?_ _)); have hz3 : w.heap.size + 1 + 1 + 1 < w1.heap.size := by have := hb.size; simp at this; omega)) | (go_at_call 27; go_must (refine (valCmp_calls _ x v).mono ?_; rintro e w2 ⟨rfl, hb2⟩; have HB2 := below_step (w := w) hb2 (by repeat (first | exact HB1 | refine below_allocS ?_ _ | refine Below.setCell ?_ (by simp; omega) _)))))
    go_ret
    refine ⟨?_, by repeat (first | exact HB2 | refine below_allocS ?_ _ | refine Below.setCell ?_ (by simp) _)⟩
    have hz : (valCmp x v == 0) = (x == v) := by rw [Bool.eq_iff_iff, beq_iff_eq, beq_iff_eq]; exact valCmp_zero x v
    rw [← hz]
    rfl

set_option maxHeartbeats 2000000 in
theorem passes_in (H : PH) (w : World) (nm : ByteArray) (v : Val) (lo hi : Int) (L : Value) (p : Pt) (V F : Value) (hI : In H w) (hL : L.oneCell' = true) (hV : V.oneCell' = true) (hF : RSl RFld 4 H p.flds F) :
    Calls Tryd.prog 10 #[.agg (cCells 5 nm v lo hi L).toArray, .agg #[.int .i64 p.id, V, F]] w (PassPost w (match getF p.flds nm with | some x => x.kind == 1 && decide (lo ≤ x.n) && decide (x.n ≤ hi) | none => false)) := by
  obtain ⟨A, c, rfl, _, hl⟩ := hF
  have hg := get_calls H
  cases hgf : getF p.flds nm with
  | none =>
    have hg := fun W hW => (get_calls H W p.flds A c nm hW hl)
    rw [hgf] at hg
    clear hgf
    go_enter Tryd.func10, Tryd.ntmps10
    go_wp2_with (first | (go_at_call 25; go_in) | (go_at_call 26; go_must (refine (hg _ (hI.below (by repeat (first | exact Below.refl _ _ | refine below_allocS ?_ _)))).mono ?_; rintro e w1 ⟨rfl, hb⟩; obtain ⟨hc, hf⟩ := bcell hb; have HB1 := below_step (w := w) hb (by repeat (first | exact Below.refl _ _ | refine below_allocS ?_ _)))))
    go_ret
    exact ⟨rfl, by repeat (first | exact HB1 | refine below_allocS ?_ _ | refine Below.setCell ?_ (by simp) _)⟩
  | some x =>
    have hg := fun W hW => (get_calls H W p.flds A c nm hW hl)
    rw [hgf] at hg
    clear hgf
    by_cases hk : x.kind = 1
    · by_cases h1 : lo ≤ x.n
      · have hk' : (x.kind == 1) = true := by simp [hk]
        have hd1 : decide (lo ≤ x.n) = true := by simp [h1]
        have hr : (x.kind == 1 && decide (lo ≤ x.n) && decide (x.n ≤ hi)) = decide (x.n ≤ hi) := by rw [hk', hd1]; rfl
        simp only [hr]
        have HK := Lib.hid hk
        clear hk hr
        go_enter Tryd.func10, Tryd.ntmps10
        go_wp2_with (first | (go_at_call 25; go_in) | (go_at_call 26; go_must (refine (hg _ (hI.below (by repeat (first | exact Below.refl _ _ | refine below_allocS ?_ _)))).mono ?_; rintro e w1 ⟨rfl, hb⟩; obtain ⟨hc, hf⟩ := bcell hb; have HB1 := below_step (w := w) hb (by repeat (first | exact Below.refl _ _ | refine below_allocS ?_ _)); have hz3 : w.heap.size + 1 + 1 + 1 < w1.heap.size := by have := hb.size; simp at this; omega)))
        go_ret
        exact ⟨by rfl, by repeat (first | exact HB1 | refine below_allocS ?_ _ | refine Below.setCell ?_ (by simp; omega) _)⟩
      · have hk' : (x.kind == 1) = true := by simp [hk]
        have hd1 : decide (lo ≤ x.n) = false := by simp [h1]
        have hr : (x.kind == 1 && decide (lo ≤ x.n) && decide (x.n ≤ hi)) = false := by rw [hk', hd1]; rfl
        simp only [hr]
        have HK := Lib.hid hk
        clear hk hr
        go_enter Tryd.func10, Tryd.ntmps10
        go_wp2_with (first | (go_at_call 25; go_in) | (go_at_call 26; go_must (refine (hg _ (hI.below (by repeat (first | exact Below.refl _ _ | refine below_allocS ?_ _)))).mono ?_; rintro e w1 ⟨rfl, hb⟩; obtain ⟨hc, hf⟩ := bcell hb; have HB1 := below_step (w := w) hb (by repeat (first | exact Below.refl _ _ | refine below_allocS ?_ _)); have hz3 : w.heap.size + 1 + 1 + 1 < w1.heap.size := by have := hb.size; simp at this; omega)))
        go_ret
        exact ⟨by rfl, by repeat (first | exact HB1 | refine below_allocS ?_ _ | refine Below.setCell ?_ (by simp; omega) _)⟩
    · have hk' : (x.kind == 1) = false := by simp [hk]
      have hr : (x.kind == 1 && decide (lo ≤ x.n) && decide (x.n ≤ hi)) = false := by rw [hk']; rfl
      simp only [hr]
      clear hk hr
      go_enter Tryd.func10, Tryd.ntmps10
      go_wp2_with (first | (go_at_call 25; go_in) | (go_at_call 26; go_must (refine (hg _ (hI.below (by repeat (first | exact Below.refl _ _ | refine below_allocS ?_ _)))).mono ?_; rintro e w1 ⟨rfl, hb⟩; obtain ⟨hc, hf⟩ := bcell hb; have HB1 := below_step (w := w) hb (by repeat (first | exact Below.refl _ _ | refine below_allocS ?_ _)); have hz3 : w.heap.size + 1 + 1 + 1 < w1.heap.size := by have := hb.size; simp at this; omega)))
      go_ret
      exact ⟨by rfl, by repeat (first | exact HB1 | refine below_allocS ?_ _ | refine Below.setCell ?_ (by simp; omega) _)⟩
end Go.Proofs.YteoeahmfpohpeaaDoor
