/- Plain: how great and deep conditions are. -/
import Derived.Test.YteoeahmfpohpeaaDoorPureB
namespace Go.Proofs.YteoeahmfpohpeaaDoor
open Go.RowKit
mutual
def csize : Cond → Int
  | .mk _ _ _ _ _ l => csizeL 1 l
def csizeL (acc : Int) : List Cond → Int
  | [] => acc
  | c :: r => csizeL (wrap64 (acc + csize c)) r
end
mutual
def cdepth : Cond → Int
  | .mk _ _ _ _ _ l => wrap64 (cdepthL 0 l + 1)
def cdepthL (acc : Int) : List Cond → Int
  | [] => acc
  | c :: r => cdepthL (if acc < cdepth c then cdepth c else acc) r
end
theorem csizeL_step {acc : Int} {l : List Cond} {k : Nat} (hk : k < l.length) : csizeL (wrap64 (acc + csize l[k])) (l.drop (k + 1)) = csizeL acc (l.drop k) := by
  rw [List.drop_eq_getElem_cons hk]; rfl
theorem csizeL_end {acc : Int} {l : List Cond} {k : Nat} (hk : l.length ≤ k) : csizeL acc (l.drop k) = acc := by
  rw [List.drop_eq_nil_of_le hk]; rfl
theorem cdepthL_step {acc : Int} {l : List Cond} {k : Nat} (hk : k < l.length) : cdepthL (if acc < cdepth l[k] then cdepth l[k] else acc) (l.drop (k + 1)) = cdepthL acc (l.drop k) := by
  rw [List.drop_eq_getElem_cons hk]; rfl
theorem cdepthL_end {acc : Int} {l : List Cond} {k : Nat} (hk : l.length ≤ k) : cdepthL acc (l.drop k) = acc := by
  rw [List.drop_eq_nil_of_le hk]; rfl
end Go.Proofs.YteoeahmfpohpeaaDoor
