/- Walks: slices.IndexFunc at fields, payload.Get. -/
import Derived.Test.YteoeahmfpohpeaaDoorProg
import Derived.Test.YteoeahmfpohpeaaDoorPureA
import Derived.WalkKit
import Derived.WalkLawsBesides
import Derived.WalkSpells
import Derived.LoopTactic
import Derived.Deep.QuietTactic
import Derived.BigQuiet
import Derived.Deep.DeepMust
import Derived.Lib.Hide
import Derived.Shelf.Abstract
namespace Go.Proofs.YteoeahmfpohpeaaDoor
open Go.RowKit Go.Shelf
set_option maxRecDepth 100000
set_option linter.unusedVariables false

/-- What a function value answers: p, in every world that holds what w held. -/
def Asks {α : Type} (R : α → List Value → Prop) (mk : List Value → Value) (g : Nat) (lb : Array Value) (p : α → Bool) (w : World) : Prop :=
  Enters Tryd.prog g ∧ ∀ W x cs, Below w.heap.size w W → R x cs → Calls Tryd.prog g (#[mk cs] ++ lb) W fun e w' => e = .returned (.bool (p x)) ∧ Below W.heap.size W w'
def mkAgg (cs : List Value) : Value := .agg cs.toArray
def NoneYet {α : Type} (p : α → Bool) (l : List α) (k : Nat) : Prop := ∀ j (hj : j < l.length), j < k → p l[j] = false
theorem NoneYet.step {α : Type} {p : α → Bool} {l : List α} {k : Nat} (h : NoneYet p l k) (hk : k < l.length) (hp : p l[k] = false) : NoneYet p l (k + 1) := by
  intro j hj hjk
  rcases Nat.lt_or_ge j k with h1 | h1
  · exact h j hj h1
  · obtain rfl : j = k := by omega
    exact hp

set_option maxHeartbeats 1000000 in
theorem indexFunc_Fld (H : PH) (g : Nat) (lb : Array Value) (p : Fld → Bool) (w : World) (l : List Fld) (A : Option Addr) (c : Nat) (hI : In H w) (hl : Sl RFld 4 H A l) (hp : Asks RFld mkAgg g lb p w) :
    Calls Tryd.prog 34 #[.slice A l.length c, .func (.func g) #[] lb] w fun e w' => e = .returned (.int .i64 (idxBy p l)) ∧ Below w.heap.size w w' := by
  have hm := hl.le
  have heg := hp.1
  unfold Enters at heg
  go_enter Tryd.func34, Tryd.ntmps34
  go_wp2
  go_loopw [5, 8] (fun v5 v8 W => ∃ k : Nat, k ≤ l.length ∧ v8 = .int .i64 k ∧ Below w.heap.size w W ∧ NoneYet p l k) (fun _ v8 _ => l.length - (intOf v8).toNat)
  case atStart => exact ⟨0, by omega, rfl, Below.refl _ _, fun _ _ h => by omega⟩
  case round =>
    obtain ⟨k, hk, rfl, HB, HN⟩ := hrel
    by_cases hlt : k < l.length
    · obtain ⟨b, off, cs, rfl, hR, hcell⟩ := hl.get hlt
      have hR' := hR
      unfold RFld at hR'
      subst hR'
      have hc0 := rdW0 hI HB (hcell 0 _ rfl)
      have hc1 := rdW hI HB (hcell 1 _ rfl)
      have hc2 := rdW hI HB (hcell 2 _ rfl)
      have hc3 := rdW hI HB (hcell 3 _ rfl)
      have hcall := Lib.hid (hp.2 wr l[k] _ HB hR)
      go_wp2_with fail
      refine hcall.out.mono ?_
      clear hcall hc0 hc1 hc2 hc3
      rintro e w1 ⟨rfl, hb⟩
      have HB1 := below_then HB HB.size hb
      cases hpk : p l[k]
      · go_wp2
        go_roundw
        case rel => exact ⟨k + 1, by omega, by go_num, HB1, HN.step hlt hpk⟩
        case measure => simp [intOf]; omega
      · go_wp2
        go_ret
        exact ⟨by simp [idxBy_at p l k hlt (fun j hj => HN j (by omega) hj) hpk], HB1⟩
    · go_wp2
      go_ret
      exact ⟨by simp [idxBy_none p l (fun j hj => HN j hj (by omega))], HB⟩

set_option maxHeartbeats 1000000 in
theorem get1_asks (w : World) (B : Nat) (name : ByteArray) (hB : B < w.heap.size) (hc : w.cell? ⟨B, 0, none⟩ = some (.string name)) :
    Asks RFld mkAgg 35 #[.pointer (some ⟨B, 0, none⟩)] (fun f => decide (f.name = name)) w := by
  refine ⟨enters_of Tryd.func35 (by kernel_rfl) rfl, ?_⟩
  rintro W x cs hb rfl
  have hc' : W.cell? ⟨B, 0, none⟩ = some (.string name) := (hb.cell (p := ⟨B, 0, none⟩) hB).trans hc
  have hBW : B < W.heap.size := Nat.lt_of_lt_of_le hB hb.size
  simp only [mkAgg]
  go_enter Tryd.func35, Tryd.ntmps35
  go_wp2
  go_ret
  exact ⟨by simp [beqS], below_allocS (Below.refl _ _) _⟩

set_option maxHeartbeats 1000000 in
theorem get_calls (H : PH) (w : World) (l : List Fld) (A : Option Addr) (c : Nat) (name : ByteArray) (hI : In H w) (hl : Sl RFld 4 H A l) :
    Calls Tryd.prog 26 #[.slice A l.length c, .string name] w fun e w' => e = .returned (.tuple #[.agg #[.int .i64 ((getF l name).getD Val.zero).kind, .int .i64 ((getF l name).getD Val.zero).n, .string ((getF l name).getD Val.zero).text], .bool (getF l name).isSome]) ∧ Below w.heap.size w w' := by
  have hm := hl.le
  rcases getF_cases l name with ⟨hi, hg⟩ | ⟨k, hk, hi, hg⟩
  all_goals
    have hi' := Lib.hid hi
    have hg' := Lib.hid hg
    clear hi hg
    go_enter Tryd.func26, Tryd.ntmps26
    go_wp2_with fail
    have HB := below_allocS (below_allocS (Below.refl w.heap.size w) (.cells #[.string name] 9)) (.cells #[.int .i64 0, .int .i64 0, .string ⟨#[]⟩] 23)
    refine (indexFunc_Fld H _ _ _ _ l A c (hI.below HB) hl (get1_asks _ _ name (by simp; omega) (cellP (cellN 0 rfl)))).mono ?_
    rintro e w1 ⟨rfl, hb⟩
    rw [hi'.out]
    obtain ⟨hc, hf⟩ := bcell hb
    have hz : w.heap.size + 1 < w1.heap.size := by have := hb.size; simp at this; omega
    have HB1 := below_then HB HB.size hb
  · go_wp2
    refine bodyPost_ret (v := .tuple #[.agg #[.int .i64 0, .int .i64 0, .string ⟨#[]⟩], .bool false]) (by simp [results, Tryd.results26, go_sem, hc]) rfl ⟨?_, ?_⟩
    · rw [hg'.out]; rfl
    · repeat (first | exact HB1 | refine below_allocS ?_ _ | refine Below.setCell ?_ (by simp) _)
  · obtain ⟨b, off, cs, rfl, hR, hcell⟩ := hl.get hk
    unfold RFld at hR
    subst hR
    have hc1 := rdW hI HB1 (hcell 1 _ rfl)
    have hc2 := rdW hI HB1 (hcell 2 _ rfl)
    have hc3 := rdW hI HB1 (hcell 3 _ rfl)
    go_wp2
    refine bodyPost_ret (v := .tuple #[.agg #[.int .i64 l[k].val.kind, .int .i64 l[k].val.n, .string l[k].val.text], .bool true]) (by simp [results, Tryd.results26, go_sem, hc]) rfl ⟨?_, ?_⟩
    · rw [hg'.out]; rfl
    · repeat (first | exact HB1 | refine below_allocS ?_ _ | refine Below.setCell ?_ (by simp) _)
end Go.Proofs.YteoeahmfpohpeaaDoor
