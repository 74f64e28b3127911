/- Walks: the document's Same. -/
import Derived.Test.YteeckkkcebljmaaDoorMWalkJ
namespace Go.Proofs.YteeckkkcebljmaaDoor
open Go.RowKit Go.Shelf Go.Sort
set_option maxRecDepth 100000
set_option linter.unusedVariables false
set_option linter.unusedSimpArgs false

def mcells (A : Option Addr) (c : Nat) (m : Man) : Array Value := #[.slice A m.segs.length c, .string m.log, .int .i64 m.next, .int .i64 m.seq]
theorem same_end {m n : Man} (h1 : m.log = n.log) (h2 : m.next = n.next) (h3 : m.seq = n.seq) (h4 : m.segs = n.segs) : decide (m = n) = true := by
  obtain ⟨a, b, c, d⟩ := m
  obtain ⟨a', b', c', d'⟩ := n
  simp only at h1 h2 h3 h4
  subst h1 h2 h3 h4
  simp
theorem segs_eq {a b : List ByteArray} (hl : a.length = b.length) {k : Nat} (hk : a.length ≤ k) (h : ∀ j (h1 : j < a.length) (h2 : j < b.length), j < k → a[j] = b[j]) : a = b :=
  List.ext_getElem hl fun j h1 h2 => h j h1 h2 (by omega)
set_option maxHeartbeats 1000000 in
theorem same_calls (H : PH) (w : World) (hI : In H w) (m n : Man) (A B : Option Addr) (c d : Nat) (hA : Sl RS 1 H A m.segs) (hB : Sl RS 1 H B n.segs) :
    Calls Tryd.prog 9 #[.agg (mcells A c m), .agg (mcells B d n)] w fun e w' => e = .returned (.bool (decide (m = n))) ∧ Below w.heap.size w w' := by
  have hm := hA.le
  have hn := hB.le
  unfold mcells
  have HB0 : Below w.heap.size w ((w.alloc (.cells (mcells A c m) 24)).alloc (.cells (mcells B d n) 24)) := below_allocS (below_allocS (Below.refl _ _) _) _
  have K0 : Blk ((w.alloc (.cells (mcells A c m) 24)).alloc (.cells (mcells B d n) 24)) w.heap.size [.slice A m.segs.length c, .string m.log, .int .i64 m.next, .int .i64 m.seq] := (Blk.new w [.slice A m.segs.length c, .string m.log, .int .i64 m.next, .int .i64 m.seq] 24).alloc _
  have K1 : Blk ((w.alloc (.cells (mcells A c m) 24)).alloc (.cells (mcells B d n) 24)) (w.heap.size + 1) [.slice B n.segs.length d, .string n.log, .int .i64 n.next, .int .i64 n.seq] := by
    have := Blk.new (w.alloc (.cells (mcells A c m) 24)) [.slice B n.segs.length d, .string n.log, .int .i64 n.next, .int .i64 n.seq] 24
    rwa [World.size_alloc] at this
  unfold mcells at HB0 K0 K1
  by_cases h1 : m.log = n.log
  · have b1 : (m.log.toList == n.log.toList) = true := by rw [bytes_eq]; simp [h1]
    by_cases h2 : m.next = n.next
    · have b2 : (m.next != n.next) = false := by simp [h2]
      by_cases h3 : m.seq = n.seq
      · have b3 : (m.seq != n.seq) = false := by simp [h3]
        by_cases h4 : m.segs.length = n.segs.length
        · have b4 : ((m.segs.length : Int) != (n.segs.length : Int)) = false := by simp [h4]
          have E1 := Lib.hid h1
          have E2 := Lib.hid h2
          have E3 := Lib.hid h3
          have E4 := Lib.hid h4
          clear h1 h2 h3 h4
          go_enter Tryd.func9, Tryd.ntmps9
          go_wp2_with fail
          go_loopw [5] (fun v5 W => ∃ k : Nat, k ≤ m.segs.length ∧ v5 = .int .i64 k ∧ Hid (∀ j (h1 : j < m.segs.length) (h2 : j < n.segs.length), j < k → m.segs[j] = n.segs[j]) ∧ Blk W w.heap.size [.slice A m.segs.length c, .string m.log, .int .i64 m.next, .int .i64 m.seq] ∧ Blk W (w.heap.size + 1) [.slice B n.segs.length d, .string n.log, .int .i64 n.next, .int .i64 n.seq] ∧ Below w.heap.size w W) (fun v5 _ => m.segs.length - (intOf v5).toNat)
          case atStart => exact ⟨0, by omega, rfl, fun _ _ _ h => by omega, K0, K1, HB0⟩
          case round =>
            obtain ⟨k, hk, rfl, hE, HK, HK1, HB⟩ := hrel
            clear K0 K1 HB0
            have q0 := HK.cell 0 rfl
            have q1 := HK1.cell 0 rfl
            by_cases hlt : k < m.segs.length
            · have hlt2 : k < n.segs.length := by have := E4.out; omega
              obtain ⟨b, off, rfl, hcell⟩ := hA.get1 hlt
              obtain ⟨b', off', rfl, hcell'⟩ := hB.get1 hlt2
              have hc0 := (hI.below HB).cell hcell
              have hc1 := (hI.below HB).cell hcell'
              have i0 : (0 : Int) ≤ (k : Int) := by omega
              have i1 : (k : Int) < (m.segs.length : Int) := by omega
              have i2 : (k : Int) < (n.segs.length : Int) := by omega
              by_cases hs : m.segs[k] = n.segs[k]
              · have b5 : (m.segs[k].toList == n.segs[k].toList) = true := by rw [bytes_eq]; simp [hs]
                have hE2 : Hid (∀ j (h1 : j < m.segs.length) (h2 : j < n.segs.length), j < k + 1 → m.segs[j] = n.segs[j]) := Lib.hid (fun j a1 a2 h => by
                  rcases Nat.lt_or_ge j k with h1 | h1
                  · exact hE.out j a1 a2 h1
                  · obtain rfl : j = k := by omega
                    exact hs)
                clear hs
                go_wp2_with fail
                go_quiet (fail)
                go_wp2_with fail
                go_roundw
                case rel => exact ⟨k + 1, by omega, by go_num, hE2, HK, HK1, below_drewN HB _⟩
                case measure => simp [intOf]; omega
              · have b5 : (m.segs[k].toList == n.segs[k].toList) = false := by rw [bytes_eq]; simp [hs]
                have hne : Hid (decide (m = n) = false) := Lib.hid (by simp; rintro rfl; exact hs rfl)
                clear hs
                go_wp2_with fail
                go_quiet (fail)
                go_wp2_with fail
                go_ret
                exact ⟨by rw [hne.out]; rfl, below_drewN HB _⟩
            · have heq := Lib.hid (same_end E1.out E2.out E3.out (segs_eq E4.out (by omega) hE.out))
              go_wp2_with fail
              go_ret
              exact ⟨by rw [heq.out]; rfl, HB⟩
        · have b4 : ((m.segs.length : Int) != (n.segs.length : Int)) = true := by simp; omega
          have hne : Hid (decide (m = n) = false) := Lib.hid (by simp; rintro rfl; exact h4 rfl)
          clear h1 h2 h3 h4
          go_enter Tryd.func9, Tryd.ntmps9
          go_wp2_with fail
          go_ret
          exact ⟨by rw [hne.out]; rfl, HB0⟩
      · have b3 : (m.seq != n.seq) = true := by simp [h3]
        have hne : Hid (decide (m = n) = false) := Lib.hid (by simp; rintro rfl; exact h3 rfl)
        clear h1 h2 h3
        go_enter Tryd.func9, Tryd.ntmps9
        go_wp2_with fail
        go_ret
        exact ⟨by rw [hne.out]; rfl, HB0⟩
    · have b2 : (m.next != n.next) = true := by simp [h2]
      have hne : Hid (decide (m = n) = false) := Lib.hid (by simp; rintro rfl; exact h2 rfl)
      clear h1 h2
      go_enter Tryd.func9, Tryd.ntmps9
      go_wp2_with fail
      go_ret
      exact ⟨by rw [hne.out]; rfl, HB0⟩
  · have b1 : (m.log.toList == n.log.toList) = false := by rw [bytes_eq]; simp [h1]
    have hne : Hid (decide (m = n) = false) := Lib.hid (by simp; rintro rfl; exact h1 rfl)
    clear h1
    go_enter Tryd.func9, Tryd.ntmps9
    go_wp2_with fail
    go_ret
    exact ⟨by rw [hne.out]; rfl, HB0⟩
end Go.Proofs.YteeckkkcebljmaaDoor
