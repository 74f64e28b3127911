/- Plain: strings.Split at the line's end, as lines. -/
import Derived.Test.YteeckkkcebljmaaDoorMPureD
namespace Go.Proofs.YteeckkkcebljmaaDoor
open Go.Lib

theorem index_cons_ten (b : UInt8) (l : Str) : index (b :: l) [10] = if b = 10 then 0 else if index l [10] = -1 then -1 else index l [10] + 1 := by
  rw [index]
  by_cases h : b = 10
  · subst h; simp [List.isPrefixOf]
  · have hp : ([10] : List UInt8).isPrefixOf (b :: l) = false := by simp [List.isPrefixOf, Ne.symm h]
    rw [hp, if_neg h]
    simp
theorem count_lines : ∀ (l : Str), (lines l).length = l.count 10 + 1
  | [] => rfl
  | c :: r => by
    unfold lines
    by_cases h : c = 10
    · subst h; simp [count_lines r]
    · rw [if_neg h, List.count_cons_of_ne (by simpa using h)]
      have := count_lines r
      cases hl : lines r with
      | nil => exact absurd hl (lines_ne r)
      | cons x xs => rw [hl] at this; simpa using this
theorem count_zero_index : ∀ (l : Str), l.count 10 = 0 → index l [10] = -1
  | [], _ => by simp [index]
  | c :: r, h => by
    have hc : ¬ c = 10 := by
      rintro rfl
      simp at h
    rw [index_cons_ten, if_neg hc, if_pos]
    exact count_zero_index r (by rwa [List.count_cons_of_ne (by simpa using hc)] at h)
theorem count_pos_index : ∀ (l : Str), 0 < l.count 10 → index l [10] ≠ -1
  | [], h => by simp at h
  | c :: r, h => by
    rw [index_cons_ten]
    by_cases hc : c = 10
    · rw [if_pos hc]; decide
    · rw [if_neg hc]
      have := count_pos_index r (by rwa [List.count_cons_of_ne (by simpa using hc)] at h)
      rw [if_neg this]
      have := index_ge r [10]
      omega
theorem splitK_lines : ∀ (l : Str), splitK [10] 0 (l.count 10) l = lines l
  | [] => rfl
  | c :: r => by
    have ih := splitK_lines r
    by_cases hc : c = 10
    · subst hc
      rw [List.count_cons_self, splitK, index_cons_ten, if_pos rfl, lines, if_pos rfl, ← ih]
      simp
    · rw [List.count_cons_of_ne (by simpa using hc), lines, if_neg hc]
      rcases Nat.eq_zero_or_pos (r.count 10) with h0 | h0
      · rw [h0] at ih ⊢
        rw [← ih]
        rfl
      · obtain ⟨k, hk⟩ : ∃ k, r.count 10 = k + 1 := ⟨r.count 10 - 1, by omega⟩
        have hi := count_pos_index r h0
        have hge := index_ge r [10]
        obtain ⟨i, hie⟩ : ∃ i : Nat, index r [10] = (i : Int) := ⟨(index r [10]).toNat, by omega⟩
        rw [hk] at ih ⊢
        rw [splitK, hie] at ih
        rw [splitK, index_cons_ten, if_neg hc, if_neg hi, hie, ← ih]
        simp only [List.length_cons, List.length_nil]
        have e1 : ((i : Int) == -1) = false := by rw [beq_eq_false_iff_ne]; omega
        have e2 : ((i : Int) + 1 == -1) = false := by rw [beq_eq_false_iff_ne]; omega
        rw [e1, e2]
        simp only [Bool.false_eq_true, if_false]
        rw [show ((i : Int) + 1).toNat = i + 1 by omega, Int.toNat_natCast]
        simp
def linesB (s : ByteArray) : List ByteArray := splitB ⟨#[10]⟩ 0 (countB s ⟨#[10]⟩) s
theorem linesB_bl (s : ByteArray) : (linesB s).map bl = lines (bl s) := by
  unfold linesB
  have h := splitB_data ⟨#[10]⟩ 0 (countB s ⟨#[10]⟩) s
  have e : countB s ⟨#[10]⟩ = (bl s).count 10 := count_one 10 _
  rw [e] at h ⊢
  refine Eq.trans ?_ (h.trans ?_)
  · rfl
  · exact splitK_lines _
theorem linesB_length (s : ByteArray) : (linesB s).length = countB s ⟨#[10]⟩ + 1 := by
  have h := congrArg List.length (linesB_bl s)
  rw [List.length_map, count_lines] at h
  rw [h]
  have e : countB s ⟨#[10]⟩ = (bl s).count 10 := count_one 10 _
  rw [e]
theorem linesB_le (s : ByteArray) : (linesB s).length ≤ s.size + 1 := by
  rw [linesB_length]
  have e : countB s ⟨#[10]⟩ = (bl s).count 10 := count_one 10 _
  have := List.count_le_length (a := (10 : UInt8)) (l := bl s)
  have h2 : (bl s).length = s.size := Array.length_toList
  omega
theorem line_le : ∀ (l : Str), ∀ x ∈ lines l, x.length ≤ l.length
  | [], x, h => by simp [lines] at h; subst h; simp
  | c :: r, x, h => by
    unfold lines at h
    have ih := line_le r
    split at h
    · rcases List.mem_cons.1 h with rfl | h
      · simp
      · have := ih x h; simp; omega
    · cases hl : lines r with
      | nil => exact absurd hl (lines_ne r)
      | cons y ys =>
        rw [hl] at h ih
        rcases List.mem_cons.1 h with rfl | h
        · have := ih y (by simp); simp; omega
        · have := ih x (by simp [h]); simp; omega
/-- The program's reading, over the pieces. -/
def parseB (l : List ByteArray) : Man := ⟨((l.drop 4).take (l.length - 6)).map (fun x => toB (cutPre wSegm (bl x))), toB (cutPre wLog (bl (l.getD 3 ⟨#[]⟩))), (numP (cutPre wNext (bl (l.getD 1 ⟨#[]⟩)))).1, (numP (cutPre wSeq (bl (l.getD 2 ⟨#[]⟩)))).1⟩
theorem getD_map (l : List ByteArray) (i : Nat) : (l.map bl).getD i [] = bl (l.getD i ⟨#[]⟩) := by
  rw [List.getD_eq_getElem?_getD, List.getD_eq_getElem?_getD, List.getElem?_map]
  cases l[i]? <;> rfl
theorem parseB_eq (l : List ByteArray) : parseB l = parseL (l.map bl) := by
  unfold parseB parseL
  simp only [getD_map, List.length_map, ← List.map_drop, ← List.map_take, List.map_map]
  rfl
theorem cutPre_len (p s : Str) : (cutPre p s).length ≤ s.length := by
  unfold cutPre trimPrefix
  split
  · simp
  · exact Nat.le_refl _
/-- What comes back: the manifest (or none) and the error. -/
def resP (s : Str) : Man × Int := match decP s with
  | some m => (m, 0)
  | none => (Man.zero, 110)
end Go.Proofs.YteeckkkcebljmaaDoor
