/- Walks: filter.kind, form, fields, Check: what the fixed test needs. -/
import Derived.Test.YteoeahmfpohpeaaDoorWalkM
import Derived.Deep.RegionHeld3
namespace Go.Proofs.YteoeahmfpohpeaaDoor
open Go.RowKit Go.Shelf
set_option maxRecDepth 100000
set_option linter.unusedVariables false
set_option linter.unusedSimpArgs false

/-- A schema's field: its name and its kind. -/
def RFd : ByteArray × Int → List Value → Prop := fun x cs => cs = [.string x.1, .int .i64 x.2]
def kindOf (l : List (ByteArray × Int)) (nm : ByteArray) : Int := match l with
  | [] => 0
  | x :: r => if x.1 = nm then x.2 else kindOf r nm
theorem kindOf_hit {l : List (ByteArray × Int)} {nm : ByteArray} : ∀ {k : Nat} (hk : k < l.length), NoneYet (fun x : ByteArray × Int => decide (x.1 = nm)) l k → l[k].1 = nm → kindOf l nm = l[k].2 := by
  induction l with
  | nil => intro k hk; simp at hk
  | cons x r ih =>
    intro k hk hn hp
    cases k with
    | zero => simp at hp; simp [kindOf, hp]
    | succ k =>
      have h0 := hn 0 (by simp) (by omega)
      simp at h0
      simp only [kindOf, h0, if_false, List.getElem_cons_succ]
      exact ih (by simpa using hk) (fun j hj hjk => by have := hn (j + 1) (by simp; omega) (by omega); simpa using this) (by simpa using hp)
theorem kindOf_miss {l : List (ByteArray × Int)} {nm : ByteArray} : (∀ j (hj : j < l.length), decide (l[j].1 = nm) = false) → kindOf l nm = 0 := by
  induction l with
  | nil => intro _; rfl
  | cons x r ih =>
    intro hn
    have h0 := hn 0 (by simp)
    simp at h0
    simp only [kindOf, h0, if_false]
    exact ih (fun j hj => by have := hn (j + 1) (by simp; omega); simpa using this)

set_option maxHeartbeats 1000000 in
theorem kind_calls (H : PH) (w : World) (V : Value) (l : List (ByteArray × Int)) (F : Value) (nm : ByteArray) (hI : In H w) (hV : V.oneCell' = true) (hF : RSl RFd 2 H l F) :
    Calls Tryd.prog 42 #[.agg #[V, F], .string nm] w fun e w' => e = .returned (.int .i64 (kindOf l nm)) ∧ Below w.heap.size w w' := by
  obtain ⟨A, cp, rfl, _, hl⟩ := hF
  have hm := hl.le
  go_enter Tryd.func42, Tryd.ntmps42
  go_wp2
  have HB0 := below_allocS (Below.refl w.heap.size w) (.cells #[V, .slice A l.length cp] 52)
  go_loopw [10] (fun v10 W => ∃ k : Nat, k ≤ l.length ∧ v10 = .int .i64 k ∧ Below w.heap.size w W ∧ NoneYet (fun x : ByteArray × Int => decide (x.1 = nm)) l k) (fun v10 _ => l.length - (intOf v10).toNat)
  case atStart => exact ⟨0, by omega, rfl, HB0, fun _ _ h => by omega⟩
  case round =>
    obtain ⟨k, hk, rfl, HB, HN⟩ := hrel
    clear HB0
    by_cases hlt : k < l.length
    · obtain ⟨b, off, cs, rfl, hR, hcell⟩ := hl.get hlt
      unfold RFd at hR
      subst hR
      have hc0 := rdW0 hI HB (hcell 0 _ rfl)
      have hc1 := rdW hI HB (hcell 1 _ rfl)
      have hbe := beqS l[k].1 nm
      by_cases hpk : l[k].1 = nm
      · have ht : (l[k].1.toList == nm.toList) = true := by rw [hbe]; simp [hpk]
        have hg := Lib.hid (kindOf_hit hlt HN hpk)
        clear hbe hpk HN
        go_wp2
        go_ret
        exact ⟨by rw [hg.out]; rfl, by repeat (first | exact HB | refine below_allocS ?_ _ | refine Below.setCell ?_ (by have := HB.size; simp; omega) _)⟩
      · have ht : (l[k].1.toList == nm.toList) = false := by rw [hbe]; simp [hpk]
        have hn := HN.step hlt (by simp [hpk])
        clear hbe hpk HN
        go_wp2
        go_roundw
        case rel => exact ⟨k + 1, by omega, by go_num, by repeat (first | exact HB | refine below_allocS ?_ _ | refine Below.setCell ?_ (by have := HB.size; simp; omega) _), hn⟩
        case measure => simp [intOf]; omega
    · have hg := Lib.hid (kindOf_miss (nm := nm) (fun j hj => HN j hj (by omega)))
      clear HN
      go_wp2
      go_ret
      exact ⟨by rw [hg.out]; rfl, HB⟩

set_option maxHeartbeats 1000000 in
theorem fields_has (H : PH) (w : World) (nm : ByteArray) (v : Val) (lo hi : Int) (L : Value) (V : Value) (l : List (ByteArray × Int)) (F : Value) (hI : In H w) (hL : L.oneCell' = true) (hV : V.oneCell' = true) (hF : RSl RFd 2 H l F) :
    Calls Tryd.prog 33 #[.agg (cCells 3 nm v lo hi L).toArray, .agg #[V, F]] w fun e w' => e = .returned (.bool (!(kindOf l nm == 0))) ∧ Below w.heap.size w w' := by
  have hF1 := hF.one
  have hg := fun W hW => kind_calls H W V l F nm hW hV hF
  go_enter Tryd.func33, Tryd.ntmps33
  go_wp2_with (go_at_call 42; go_must (refine (hg _ (hI.below (by repeat (first | exact Below.refl _ _ | refine below_allocS ?_ _)))).mono ?_; rintro e w1 ⟨rfl, hb⟩; obtain ⟨hc, hf⟩ := bcell hb; have HB1 := below_step (w := w) hb (by repeat (first | exact Below.refl _ _ | refine below_allocS ?_ _))))
  go_ret
  exact ⟨rfl, HB1⟩
set_option maxHeartbeats 1000000 in
theorem fields_in (H : PH) (w : World) (nm : ByteArray) (v : Val) (lo hi : Int) (L : Value) (V : Value) (l : List (ByteArray × Int)) (F : Value) (hI : In H w) (hL : L.oneCell' = true) (hV : V.oneCell' = true) (hF : RSl RFd 2 H l F) :
    Calls Tryd.prog 33 #[.agg (cCells 5 nm v lo hi L).toArray, .agg #[V, F]] w fun e w' => e = .returned (.bool (kindOf l nm == 1)) ∧ Below w.heap.size w w' := by
  have hF1 := hF.one
  have hg := fun W hW => kind_calls H W V l F nm hW hV hF
  go_enter Tryd.func33, Tryd.ntmps33
  go_wp2_with (go_at_call 42; go_must (refine (hg _ (hI.below (by repeat (first | exact Below.refl _ _ | refine below_allocS ?_ _)))).mono ?_; rintro e w1 ⟨rfl, hb⟩; obtain ⟨hc, hf⟩ := bcell hb; have HB1 := below_step (w := w) hb (by repeat (first | exact Below.refl _ _ | refine below_allocS ?_ _))))
  go_ret
  exact ⟨rfl, HB1⟩

set_option maxHeartbeats 1000000 in
theorem form_not (w : World) (nm : ByteArray) (v : Val) (lo hi : Int) (A : Option Addr) (n c : Nat) (hn : ((n : Int) == 1) = false) :
    Calls Tryd.prog 32 #[.agg (cCells 6 nm v lo hi (.slice A n c)).toArray] w fun e w' => e = .returned (.bool false) ∧ Below w.heap.size w w' := by
  go_enter Tryd.func32, Tryd.ntmps32
  go_wp2
  go_ret
  exact ⟨rfl, by repeat (first | exact Below.refl _ _ | refine below_allocS ?_ _ | refine Below.setCell ?_ (by simp) _)⟩
set_option maxHeartbeats 1000000 in
/-- A condition that asks for a field alone, with nothing else laid in it. -/
theorem form_has (w : World) (nm : ByteArray) (c : Nat) :
    Calls Tryd.prog 32 #[.agg #[.int .i64 3, .string nm, .int .i64 0, .int .i64 0, .string ⟨#[]⟩, .int .i64 0, .int .i64 0, .slice none 0 c]] w fun e w' => e = .returned (.bool true) ∧ Below w.heap.size w w' := by
  have ht : (nm.toList == nm.toList) = true := by simp
  go_enter Tryd.func32, Tryd.ntmps32
  go_wp2
  go_ret
  exact ⟨rfl, by repeat (first | exact Below.refl _ _ | refine below_allocS ?_ _ | refine Below.setCell ?_ (by simp) _)⟩
set_option maxHeartbeats 1000000 in
theorem form_in (w : World) (nm : ByteArray) (c : Nat) :
    Calls Tryd.prog 32 #[.agg #[.int .i64 5, .string nm, .int .i64 0, .int .i64 0, .string ⟨#[]⟩, .int .i64 5, .int .i64 9, .slice none 0 c]] w fun e w' => e = .returned (.bool true) ∧ Below w.heap.size w w' := by
  have ht : (nm.toList == nm.toList) = true := by simp
  go_enter Tryd.func32, Tryd.ntmps32
  go_wp2_with (first | (go_at_call 41; go_in))
  go_region_held3 (fun w' => w'.cell? ⟨w.heap.size, 1, none⟩ = some (.string nm) ∧ w'.cell? ⟨w.heap.size, 5, none⟩ = some (.int .i64 5) ∧ w'.cell? ⟨w.heap.size, 6, none⟩ = some (.int .i64 9)) (go_keep) (fail)
  go_wp2
  go_ret
  exact ⟨rfl, below_step (Below.refl _ _) (by repeat (first | exact Below.refl _ _ | refine below_allocS ?_ _ | refine Below.setCell ?_ (by simp) _ | refine Below.drew ?_))⟩

set_option maxHeartbeats 2000000 in
theorem check_calls (H : PH) (n : Nat) (c : Cond) (cs : List Value) (w : World) (V F : Value) (b1 b2 : Bool) (hI : In H w) (hc : RC H n c cs) (hV : V.oneCell' = true) (hF : F.oneCell' = true) (hs : csize c ≤ 256) (hd : cdepth c ≤ 14)
    (h1 : ∀ W, In H W → Calls Tryd.prog 32 #[.agg cs.toArray] W fun e w' => e = .returned (.bool b1) ∧ Below W.heap.size W w')
    (h2 : b1 = true → ∀ W, In H W → Calls Tryd.prog 33 #[.agg cs.toArray, .agg #[V, F]] W fun e w' => e = .returned (.bool b2) ∧ Below W.heap.size W w') :
    Calls Tryd.prog 22 #[.agg cs.toArray, .agg #[V, F]] w fun e w' => e = .returned (.int .i64 (if b1 then (if b2 then 0 else 51) else 160)) ∧ Below w.heap.size w w' := by
  have hs1 := fun W hW => size_calls H n c cs W hW hc
  have hd1 := fun W hW => depth_calls H n c cs W hW hc
  obtain ⟨k0, nm, v0, lo, hi, A0, m0, c0, rfl⟩ := hc.form
  have hs2 : ¬ (256 < csize c) := by omega
  have hd2 : ¬ (14 < cdepth c) := by omega
  go_enter Tryd.func22, Tryd.ntmps22
  cases b1 <;> cases b2
  all_goals go_wp2_with (first
    | (go_at_call 13; go_must (refine (hs1 _ (hI.below (by repeat (first | exact Below.refl _ _ | refine below_allocS ?_ _)))).mono ?_; rintro e w1 ⟨rfl, hb⟩; obtain ⟨hc1, hf1⟩ := bcell hb; have HB1 := below_step (w := w) hb (by repeat (first | exact Below.refl _ _ | refine below_allocS ?_ _)); have hz1 : w.heap.size + 1 < w1.heap.size := Nat.lt_of_lt_of_le (by simp) hb.size; have hz0 : w.heap.size < w1.heap.size := by omega))
    | (go_at_call 23; go_must (refine (hd1 _ (hI.below HB1)).mono ?_; rintro e w2 ⟨rfl, hb2⟩; obtain ⟨hc2, hf2⟩ := bcell hb2; have HB2 := below_step (w := w) hb2 HB1; have hy1 : w.heap.size + 1 < w2.heap.size := Nat.lt_of_lt_of_le hz1 hb2.size; have hy0 : w.heap.size < w2.heap.size := by omega))
    | (go_at_call 32; go_must (refine (h1 _ (hI.below HB2)).mono ?_; rintro e w3 ⟨rfl, hb3⟩; obtain ⟨hc3, hf3⟩ := bcell hb3; have HB3 := below_step (w := w) hb3 HB2; have hx1 : w.heap.size + 1 < w3.heap.size := Nat.lt_of_lt_of_le hy1 hb3.size; have hx0 : w.heap.size < w3.heap.size := by omega))
    | (go_at_call 33; go_must (refine (h2 (by trivial) _ (hI.below HB3)).mono ?_; rintro e w4 ⟨rfl, hb4⟩; have HB4 := below_step (w := w) hb4 HB3)))
  all_goals go_ret
  all_goals exact ⟨rfl, by first | exact HB4 | exact HB3⟩
end Go.Proofs.YteoeahmfpohpeaaDoor
