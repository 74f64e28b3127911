/- Walks: ids.All, its iterator at an empty second list. -/
import Derived.Test.YteoeahmfpohpeaaDoorWalkG
import Derived.RangeFuncNested
import Derived.RangeFuncBound
import Derived.RangeFuncCalls
import Derived.RangeFuncLeaves
import Derived.RangeFuncBox
import Derived.Shelf.Abstract
import Derived.Shelf.RegionOpen
import Derived.OwnWalkIn
import Derived.TacticsInMore
import Derived.LoopNIn
import Derived.LoopIn
import Derived.Sort.QuietTacIn
import Derived.Sort.BigQuietIn
namespace Go.Proofs.YteoeahmfpohpeaaDoor
open Go.RowKit Go.Shelf
attribute [local go_sem] Oper.semAt_some
set_option maxRecDepth 100000
set_option linter.unusedVariables false
set_option linter.unusedSimpArgs false

theorem plus_le {w w1 w2 w3 : World} (h1 : w.heap.size ≤ w1.heap.size) (h3 : Below w2.heap.size w2 w3) : Le (plus noPH w1 w2) (plus noPH w w3) := fun b o h => by
  unfold plus at *
  split at h
  · cases h
  · have := (Array.getElem?_eq_some_iff.1 h).1
    rw [if_neg (by omega), h3.block b this]
    exact h
set_option maxHeartbeats 1000000 in
theorem all_calls (H : PH) (w : World) (A : Option Addr) (c : Nat) (xs : List Int) (hI : In H w) (hl : Sl RI 1 H A xs) (hb : xs.length * 8 ≤ 140737488355328) :
    Calls Tryd.prog 39 #[.slice A xs.length c, .slice none 0 0] w fun e w' => ∃ b1 b2 v1 v2, e = .returned (.func (.func 47) #[] #[.pointer (some ⟨b1, 0, none⟩), .pointer (some ⟨b2, 0, none⟩)]) ∧ Below w.heap.size w w' ∧
      Blk w' b1 [v1] ∧ Blk w' b2 [v2] ∧ w.heap.size ≤ b1 ∧ w.heap.size ≤ b2 ∧ RSl RI 1 (plus noPH w w') (insAll xs []) v1 ∧ RSl RI 1 (plus noPH w w') [] v2 := by
  go_enter Tryd.func39, Tryd.ntmps39
  go_wp2_with fail
  refine (set_calls H w A c xs hI hl hb).mono ?_
  rintro e w1 ⟨v1, rfl, hv1, hb1⟩
  obtain ⟨A1, c1, rfl, hc1, hs1⟩ := hv1
  have HS1 := Lib.hid hs1
  clear hs1
  go_wp2_with fail
  refine (set_calls noPH w1 none 0 [] (fun _ _ h => by cases h) (Sl.nil _ _ _ _) (by simp)).mono ?_
  rintro e w2 ⟨v2, rfl, hv2, hb2⟩
  obtain ⟨A2, c2, rfl, hc2, hs2⟩ := hv2
  have HS2 := Lib.hid hs2
  clear hs2
  go_wp2
  go_ret
  have k1 := Blk.new w2 [.slice A1 (insAll xs []).length c1] 29
  have k2 := Blk.new (w2.alloc (.cells [.slice A1 (insAll xs []).length c1].toArray 29)) [.slice A2 (insAll [] []).length c2] 29
  have hB3 : Below w2.heap.size w2 ((w2.alloc (.cells [.slice A1 (insAll xs []).length c1].toArray 29)).alloc (.cells [.slice A2 (insAll [] []).length c2].toArray 29)) := below_allocS (below_allocS (Below.refl _ _) _) _
  rw [World.size_alloc] at k2
  have hz := hb1.size
  have hz2 := hb2.size
  refine ⟨w2.heap.size, w2.heap.size + 1, _, _, rfl, below_step hB3 (below_step hb2 hb1), k1.alloc _, k2, by omega, by omega, ?_, ?_⟩
  · exact RSl.mono ⟨A1, c1, rfl, hc1, HS1.out⟩ (plus_le (Nat.le_refl _) (below_step hB3 hb2)) (fun _ _ _ h => h)
  · exact RSl.mono ⟨A2, c2, rfl, hc2, HS2.out⟩ (plus_le hz hB3) (fun _ _ _ h => h)

/-- The blocks from n₁ to n₂ lie as they lay. -/
def KeepMid (n₁ n₂ : Nat) (A B : World) : Prop := ∀ k, n₁ ≤ k → k < n₂ → B.heap[k]? = A.heap[k]?
theorem KeepMid.refl (n₁ n₂ : Nat) (A : World) : KeepMid n₁ n₂ A A := fun _ _ _ => rfl
theorem KeepMid.trans {n₁ n₂ : Nat} {A B C : World} (h : KeepMid n₁ n₂ A B) (k : KeepMid n₁ n₂ B C) : KeepMid n₁ n₂ A C := fun i h1 h2 => (k i h1 h2).trans (h i h1 h2)
theorem KeepMid.cell {n₁ n₂ : Nat} {A B : World} (h : KeepMid n₁ n₂ A B) {b o : Nat} {v : Value} (h1 : n₁ ≤ b) (h2 : b < n₂) (hc : A.cell? ⟨b, o, none⟩ = some v) : B.cell? ⟨b, o, none⟩ = some v := by
  rw [World.cell?_of_block (h b h1 h2)]; exact hc

set_option maxHeartbeats 2000000 in
theorem all1_in (n : Nat) (hn : 1 ≤ n) (l n₁ n₂ Bx By : Nat) (A A2 : Option Addr) (c c2 : Nat) (xs : List Int) (J Jx : List Int → World → Prop)
    (hm : xs.length ≤ 17592186044416) (hJd : ∀ pre W n, J pre W → J pre (World.drewN W n))
    (hY : ∀ pre x W, J pre W → pre.length < xs.length → YieldAt Fence.wide (n - 1) Tryd.prog l #[.int .i64 x, .int .i64 1] W fun e W' =>
      (e = .returned (.bool true) ∧ J (pre ++ [x]) W' ∧ KeepMid n₁ n₂ W W') ∨ (e = .returned (.bool false) ∧ Jx (pre ++ [x]) W'))
    (W : World) (hx1 : n₁ ≤ Bx) (hx2 : Bx < n₂) (hy1 : n₁ ≤ By) (hy2 : By < n₂) (hBx : W.cell? ⟨Bx, 0, none⟩ = some (.slice A xs.length c)) (hBy : W.cell? ⟨By, 0, none⟩ = some (.slice A2 0 c2))
    (hcs : ∀ j (hj : j < xs.length), ∃ b off, A = some ⟨b, off, none⟩ ∧ n₁ ≤ b ∧ b < n₂ ∧ W.cell? ⟨b, off + j, none⟩ = some (.int .i64 xs[j])) (h0 : J [] W) :
    CallsIn Fence.wide n Tryd.prog 47 #[.func (.yield l) #[] #[], .pointer (some ⟨Bx, 0, none⟩), .pointer (some ⟨By, 0, none⟩)] W fun e W' => (∃ v, e = .returned v) ∧ (J xs W' ∨ ∃ k, k ≤ xs.length ∧ Jx (xs.take k) W') := by
  refine callsIn_of_wp Tryd.func47 rfl trivial ?_ rfl
  simp only [Tryd.ntmps47, List.size_toArray, List.length_cons, List.length_nil, Nat.reduceAdd, Nat.reduceSub, Array.replicate_succ, Array.replicate_zero, List.push_toArray, List.append_toArray, List.nil_append, List.cons_append]
  gi_wp2
  gi_loopw [4, 5] (fun i4 i5 wr => ∃ k : Nat, k ≤ xs.length ∧ i4 = .int .i64 k ∧ i5 = .int .i64 0 ∧ J (xs.take k) wr ∧ KeepMid n₁ n₂ W wr) (fun i4 _ _ => xs.length - (intOf i4).toNat)
  case atStart => exact ⟨0, Nat.zero_le _, rfl, rfl, by simpa using h0, KeepMid.refl _ _ _⟩
  case round =>
    obtain ⟨k, hk, rfl, rfl, hJs, hnx⟩ := hrel
    have hbx := hnx.cell hx1 hx2 hBx
    have hby := hnx.cell hy1 hy2 hBy
    clear hBx hBy
    by_cases hlt : k < xs.length
    · obtain ⟨b, off, rfl, hb1, hb2, hcx⟩ := hcs k hlt
      have hcx' := hnx.cell hb1 hb2 hcx
      clear hcx hcs
      have hlt1 : (k : Int) < xs.length := by omega
      gi_wp2
      gi_big_quiet_th (fail)
      obtain ⟨fn, tmps, assign, body, hy, hR⟩ := hY _ xs[k] (wr.drewN nq) (hJd _ _ _ hJs) (by simp; omega)
      gi_wp2
      refine hR.mono ?_
      rintro e W3 (⟨rfl, hJ3, hk3⟩ | ⟨rfl, hJx3⟩)
      · gi_wp2
        go_roundw
        case rel => exact ⟨k + 1, by omega, by go_num, rfl, by rw [List.take_succ_eq_append_getElem hlt]; exact hJ3, hnx.trans (KeepMid.trans (fun _ _ _ => rfl) hk3)⟩
        case measure => simp [intOf]; omega
      · gi_wp2
        refine bodyPost_ret (results_none rfl _ _ _) rfl ?_
        exact ⟨⟨_, rfl⟩, .inr ⟨k + 1, by omega, by rw [List.take_succ_eq_append_getElem hlt]; exact hJx3⟩⟩
    · obtain rfl : k = xs.length := by omega
      gi_wp2
      go_end0
      exact ⟨⟨_, rfl⟩, .inl (by simpa using hJs)⟩
end Go.Proofs.YteoeahmfpohpeaaDoor
