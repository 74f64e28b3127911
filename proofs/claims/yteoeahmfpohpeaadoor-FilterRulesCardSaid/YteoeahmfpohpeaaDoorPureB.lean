/- Plain: how values stand; strings' order. -/
import Derived.Test.YteoeahmfpohpeaaDoorPureA
namespace Go.Proofs.YteoeahmfpohpeaaDoor
open Go.RowKit

theorem bless_irrefl : ∀ l : List UInt8, Op.bytesLess l l = false
  | [] => rfl
  | a :: l => by simp [Op.bytesLess, bless_irrefl l]
theorem bless_trans : ∀ {a b c : List UInt8}, Op.bytesLess a b = true → Op.bytesLess b c = true → Op.bytesLess a c = true
  | _, [], _, h, _ => by cases ‹List UInt8› <;> simp [Op.bytesLess] at h
  | _, _ :: _, [], _, k => by simp [Op.bytesLess] at k
  | [], _ :: _, _ :: _, _, _ => rfl
  | a :: x, b :: y, c :: z, h, k => by
    simp only [Op.bytesLess, Bool.or_eq_true, decide_eq_true_eq, Bool.and_eq_true, beq_iff_eq] at *
    rcases h with h | ⟨rfl, h⟩ <;> rcases k with k | ⟨rfl, k⟩
    · exact .inl (UInt8.lt_trans h k)
    · exact .inl h
    · exact .inl k
    · exact .inr ⟨rfl, bless_trans h k⟩
theorem bless_total : ∀ {a b : List UInt8}, Op.bytesLess a b = false → a ≠ b → Op.bytesLess b a = true
  | [], [], _, h => (h rfl).elim
  | [], _ :: _, h, _ => by simp [Op.bytesLess] at h
  | _ :: _, [], _, _ => rfl
  | a :: x, b :: y, h, hn => by
    simp only [Op.bytesLess, Bool.or_eq_false_iff, decide_eq_false_iff_not, Bool.and_eq_false_iff, beq_eq_false_iff_ne] at h
    simp only [Op.bytesLess, Bool.or_eq_true, decide_eq_true_eq, Bool.and_eq_true, beq_iff_eq]
    by_cases hab : a = b
    · subst hab
      refine .inr ⟨rfl, bless_total (h.2.resolve_left (fun h => h rfl)) (fun e => hn (by rw [e]))⟩
    · refine .inl ?_
      have h1 := h.1
      rw [UInt8.lt_iff_toNat_lt] at *
      have : a.toNat ≠ b.toNat := fun e => hab (UInt8.toNat_inj.1 e)
      omega

def cmpI (a b : Int) : Int := if a < b then -1 else if b < a then 1 else 0
def cmpS (a b : ByteArray) : Int := if Op.bytesLess a.toList b.toList then -1 else if a.toList == b.toList then 0 else 1
def orI : List Int → Int
  | [] => 0
  | x :: r => if x = 0 then orI r else x
theorem orI_drop {l : List Int} {k : Nat} (hk : k < l.length) (hx : l[k] = 0) : orI (l.drop (k + 1)) = orI (l.drop k) := by
  rw [List.drop_eq_getElem_cons hk]
  show _ = if l[k] = 0 then orI (l.drop (k + 1)) else l[k]
  rw [if_pos hx]
theorem orI_hit {l : List Int} {k : Nat} (hk : k < l.length) (hx : l[k] ≠ 0) : orI (l.drop k) = l[k] := by
  rw [List.drop_eq_getElem_cons hk]
  show (if l[k] = 0 then orI (l.drop (k + 1)) else l[k]) = _
  rw [if_neg hx]
theorem orI_end {l : List Int} {k : Nat} (hk : l.length ≤ k) : orI (l.drop k) = 0 := by rw [List.drop_eq_nil_of_le hk]; rfl
def valCmp (a b : Val) : Int := orI [cmpI a.kind b.kind, cmpI a.n b.n, cmpS a.text b.text]
theorem cmpI_zero (a b : Int) : cmpI a b = 0 ↔ a = b := by unfold cmpI; split; omega; split <;> omega
theorem cmpS_zero (a b : ByteArray) : cmpS a b = 0 ↔ a = b := by
  unfold cmpS
  rw [← Lib.bytes_beq_iff a b]
  split
  · rename_i h
    have : (a.toList == b.toList) ≠ true := fun e => by rw [beq_iff_eq] at e; rw [e, bless_irrefl] at h; cases h
    simp [this]
  · split <;> simp_all
theorem orI_zero (l : List Int) : orI l = 0 ↔ ∀ x ∈ l, x = 0 := by
  induction l with
  | nil => simp [orI]
  | cons x r ih => unfold orI; split <;> simp_all
theorem valCmp_zero (a b : Val) : valCmp a b = 0 ↔ a = b := by
  unfold valCmp
  rw [orI_zero]
  simp only [List.mem_cons, List.not_mem_nil, or_false, forall_eq_or_imp, forall_eq, cmpI_zero, cmpS_zero]
  cases a; cases b; simp
end Go.Proofs.YteoeahmfpohpeaaDoor
