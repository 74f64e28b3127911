/- Plain: rising lists; a number put into one. -/
import Derived.Test.YteoeahmfpohpeaaDoorPureE
namespace Go.Proofs.YteoeahmfpohpeaaDoor
open Go.RowKit

def Rising (l : List Int) : Prop := l.Pairwise (· < ·)
/-- A number put into a rising list. -/
def ins (n : Int) : List Int → List Int
  | [] => [n]
  | x :: r => if x < n then x :: ins n r else if x = n then x :: r else n :: x :: r
def insAll (l : List Int) (acc : List Int) : List Int := l.foldl (fun a n => ins n a) acc
theorem mem_ins {n x : Int} {l : List Int} : x ∈ ins n l ↔ x = n ∨ x ∈ l := by
  induction l with
  | nil => simp [ins]
  | cons y r ih =>
    unfold ins
    split
    · simp [ih]; constructor <;> rintro (h | h | h) <;> simp [h]
    · split
      · rename_i h; subst h; simp
      · simp
theorem ins_rising {n : Int} {l : List Int} (h : Rising l) : Rising (ins n l) := by
  induction l with
  | nil => simp [ins, Rising]
  | cons y r ih =>
    have h' := List.pairwise_cons.1 h
    unfold ins
    split
    · refine List.pairwise_cons.2 ⟨fun x hx => ?_, ih h'.2⟩
      rcases mem_ins.1 hx with rfl | hx
      · assumption
      · exact h'.1 x hx
    · split
      · exact h
      · refine List.pairwise_cons.2 ⟨fun x hx => ?_, h⟩
        rcases List.mem_cons.1 hx with rfl | hx
        · omega
        · have := h'.1 x hx; omega
theorem ins_length_le (n : Int) (l : List Int) : (ins n l).length ≤ l.length + 1 := by
  induction l with
  | nil => simp [ins]
  | cons y r ih => unfold ins; split; (simp; omega); split <;> simp
/-- Where a number is put. -/
theorem ins_at {n : Int} {l : List Int} {k : Nat} (hr : Rising l) (hk : k ≤ l.length) (h1 : ∀ j (hj : j < l.length), j < k → l[j] < n) (h2 : ∀ j (hj : j < l.length), k ≤ j → ¬ l[j] < n) :
    ins n l = if h : k < l.length then (if l[k] = n then l else l.take k ++ n :: l.drop k) else l ++ [n] := by
  induction l generalizing k with
  | nil => simp [ins]
  | cons y r ih =>
    have h' := List.pairwise_cons.1 hr
    cases k with
    | zero =>
      have := h2 0 (by simp) (by omega)
      simp at this
      simp only [ins, if_neg (show ¬ y < n by omega)]
      simp
    | succ k =>
      have h0 := h1 0 (by simp) (by omega)
      simp only [List.getElem_cons_zero] at h0
      have := ih h'.2 (k := k) (by simpa using hk) (fun j hj hjk => by have := h1 (j + 1) (by simp; omega) (by omega); simpa using this) (fun j hj hjk => by have := h2 (j + 1) (by simp; omega) (by omega); simpa using this)
      simp only [ins, if_pos h0, this]
      by_cases hlt : k < r.length
      · simp only [hlt, dif_pos, List.length_cons, Nat.add_lt_add_iff_right, List.getElem_cons_succ]
        split <;> simp
      · simp [hlt]
theorem rising_ext {a b : List Int} (ha : Rising a) (hb : Rising b) (h : ∀ x, x ∈ a ↔ x ∈ b) : a = b := by
  induction a generalizing b with
  | nil =>
    cases b with
    | nil => rfl
    | cons y r => have := (h y).2 (by simp); simp at this
  | cons x r ih =>
    cases b with
    | nil => have := (h x).1 (by simp); simp at this
    | cons y s =>
      have ha' := List.pairwise_cons.1 ha
      have hb' := List.pairwise_cons.1 hb
      have hxy : x = y := by
        have h1 := (h x).1 (by simp)
        have h2 := (h y).2 (by simp)
        rcases List.mem_cons.1 h1 with e | h1
        · exact e
        · rcases List.mem_cons.1 h2 with e | h2
          · exact e.symm
          · have := hb'.1 x h1; have := ha'.1 y h2; omega
      subst hxy
      rw [ih ha'.2 hb'.2 (fun z => ?_)]
      constructor
      · intro hz
        rcases List.mem_cons.1 ((h z).1 (List.mem_cons_of_mem _ hz)) with e | e
        · have := ha'.1 z hz; omega
        · exact e
      · intro hz
        rcases List.mem_cons.1 ((h z).2 (List.mem_cons_of_mem _ hz)) with e | e
        · have := hb'.1 z hz; omega
        · exact e
theorem mem_insAll {x : Int} {l acc : List Int} : x ∈ insAll l acc ↔ x ∈ l ∨ x ∈ acc := by
  unfold insAll
  induction l generalizing acc with
  | nil => simp
  | cons y r ih => simp only [List.foldl_cons, ih, mem_ins, List.mem_cons, or_assoc, or_left_comm]
theorem insAll_rising {l acc : List Int} (h : Rising acc) : Rising (insAll l acc) := by
  unfold insAll
  induction l generalizing acc with
  | nil => exact h
  | cons y r ih => exact ih (ins_rising h)
theorem insAll_length_le (l acc : List Int) : (insAll l acc).length ≤ l.length + acc.length := by
  unfold insAll
  induction l generalizing acc with
  | nil => simp
  | cons y r ih => have := ih (ins y acc); have := ins_length_le y acc; simp only [List.foldl_cons, List.length_cons]; omega
end Go.Proofs.YteoeahmfpohpeaaDoor
