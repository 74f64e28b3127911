/- Plain types and functions: values, fields, points, conditions. No Go, no memory. -/
import Derived.Test.YteoeahmfpohpeaaDoorLK
namespace Go.Proofs.YteoeahmfpohpeaaDoor
open Go.RowKit

structure Val where
  kind : Int
  n : Int
  text : ByteArray
deriving DecidableEq
def Val.zero : Val := ⟨0, 0, ⟨#[]⟩⟩
structure Fld where
  name : ByteArray
  val : Val
deriving DecidableEq
structure Vc where
  name : ByteArray
  v : List Int
deriving DecidableEq
structure Pt where
  id : Int
  vecs : List Vc
  flds : List Fld
deriving DecidableEq

def RVal : Val → List Value → Prop := fun x cs => cs = [.int .i64 x.kind, .int .i64 x.n, .string x.text]
def RFld : Fld → List Value → Prop := fun x cs => cs = [.string x.name, .int .i64 x.val.kind, .int .i64 x.val.n, .string x.val.text]
def RVc (H : PH) : Vc → List Value → Prop := fun x cs => ∃ V, cs = [.string x.name, V] ∧ RSl RI 1 H x.v V
def RPt (H : PH) : Pt → List Value → Prop := fun x cs => ∃ V F, cs = [.int .i64 x.id, V, F] ∧ RSl (RVc H) 2 H x.vecs V ∧ RSl RFld 4 H x.flds F

/-- Where the first element stands of which p holds; -1: none. -/
def idxBy {α : Type} (p : α → Bool) : List α → Int
  | [] => -1
  | x :: r => if p x then 0 else if idxBy p r = -1 then -1 else idxBy p r + 1
theorem idxBy_ge {α : Type} (p : α → Bool) (l : List α) : -1 ≤ idxBy p l := by
  induction l with
  | nil => simp [idxBy]
  | cons x r ih => unfold idxBy; split; omega; split <;> omega
theorem idxBy_lt {α : Type} (p : α → Bool) (l : List α) : idxBy p l < l.length := by
  induction l with
  | nil => simp [idxBy]
  | cons x r ih => unfold idxBy; simp only [List.length_cons]; split; omega; split <;> omega
theorem idxBy_at {α : Type} (p : α → Bool) (l : List α) (k : Nat) (hk : k < l.length) (hn : ∀ j (hj : j < k), p (l[j]'(by omega)) = false) (hp : p l[k] = true) : idxBy p l = k := by
  induction l generalizing k with
  | nil => simp at hk
  | cons x r ih =>
    cases k with
    | zero => simp at hp; simp [idxBy, hp]
    | succ k =>
      have h0 := hn 0 (by omega)
      simp at h0 hp hk
      have := ih k hk (fun j hj => by have := hn (j + 1) (by omega); simpa using this) hp
      simp [idxBy, h0, this]
theorem idxBy_none {α : Type} (p : α → Bool) (l : List α) (hn : ∀ j (hj : j < l.length), p l[j] = false) : idxBy p l = -1 := by
  induction l with
  | nil => rfl
  | cons x r ih =>
    have h0 := hn 0 (by simp)
    simp at h0
    have := ih (fun j hj => by have := hn (j + 1) (by simp; omega); simpa using this)
    simp [idxBy, h0, this]

def getF (l : List Fld) (name : ByteArray) : Option Val := (l.find? fun f => decide (f.name = name)).map (·.val)
theorem getF_idx (l : List Fld) (name : ByteArray) : getF l name = if h : 0 ≤ idxBy (fun f : Fld => decide (f.name = name)) l then some ((l[(idxBy (fun f : Fld => decide (f.name = name)) l).toNat]'(by have := idxBy_lt (fun f : Fld => decide (f.name = name)) l; omega)).val) else none := by
  induction l with
  | nil => simp [getF, idxBy]
  | cons x r ih =>
    by_cases hx : x.name = name
    · simp [getF, idxBy, hx]
    · have hg : getF (x :: r) name = getF r name := by simp [getF, hx]
      rw [hg, ih]
      have hge := idxBy_ge (fun f : Fld => decide (f.name = name)) r
      by_cases hr : idxBy (fun f : Fld => decide (f.name = name)) r = -1
      · have : idxBy (fun f : Fld => decide (f.name = name)) (x :: r) = -1 := by simp [idxBy, hx, hr]
        simp [hr, this]
      · have : idxBy (fun f : Fld => decide (f.name = name)) (x :: r) = idxBy (fun f : Fld => decide (f.name = name)) r + 1 := by simp [idxBy, hx, hr]
        have h1 : 0 ≤ idxBy (fun f : Fld => decide (f.name = name)) r := by omega
        have h2 : (idxBy (fun f : Fld => decide (f.name = name)) r + 1).toNat = (idxBy (fun f : Fld => decide (f.name = name)) r).toNat + 1 := by omega
        simp only [this, h1, dif_pos, show (0 : Int) ≤ idxBy (fun f : Fld => decide (f.name = name)) r + 1 by omega, h2, List.getElem_cons_succ]

theorem getF_cases (l : List Fld) (name : ByteArray) :
    (idxBy (fun f : Fld => decide (f.name = name)) l = -1 ∧ getF l name = none) ∨ ∃ k, ∃ hk : k < l.length, idxBy (fun f : Fld => decide (f.name = name)) l = (k : Int) ∧ getF l name = some l[k].val := by
  have hlt := idxBy_lt (fun f : Fld => decide (f.name = name)) l
  have hge := idxBy_ge (fun f : Fld => decide (f.name = name)) l
  have hg := getF_idx l name
  by_cases h0 : 0 ≤ idxBy (fun f : Fld => decide (f.name = name)) l
  · rw [dif_pos h0] at hg
    exact .inr ⟨_, by omega, by omega, hg⟩
  · rw [dif_neg h0] at hg
    exact .inl ⟨by omega, hg⟩
theorem getF_hit {l : List Fld} {name : ByteArray} {k : Nat} (hk : k < l.length) (hn : ∀ j (hj : j < l.length), j < k → decide (l[j].name = name) = false) (hp : l[k].name = name) : getF l name = some l[k].val := by
  rcases getF_cases l name with ⟨h, _⟩ | ⟨j, hj, h, hg⟩
  · have := idxBy_at (fun f : Fld => decide (f.name = name)) l k hk (fun j hj => hn j (by omega) hj) (by simp [hp]); omega
  · have := idxBy_at (fun f : Fld => decide (f.name = name)) l k hk (fun j hj => hn j (by omega) hj) (by simp [hp])
    obtain rfl : j = k := by omega
    exact hg
theorem getF_miss {l : List Fld} {name : ByteArray} (hn : ∀ j (hj : j < l.length), decide (l[j].name = name) = false) : getF l name = none := by
  rcases getF_cases l name with ⟨_, hg⟩ | ⟨j, hj, h, _⟩
  · exact hg
  · have := idxBy_none (fun f : Fld => decide (f.name = name)) l hn; omega
inductive Cond where
  | mk (kind : Int) (name : ByteArray) (val : Val) (low high : Int) (list : List Cond)

mutual
def passes (fl : List Fld) : Cond → Bool
  | .mk k nm v lo hi l =>
    if k = 1 then true else if k = 3 then (getF fl nm).isSome
    else if k = 4 then (match getF fl nm with | some x => x == v | none => false)
    else if k = 5 then (match getF fl nm with | some x => x.kind == 1 && decide (lo ≤ x.n) && decide (x.n ≤ hi) | none => false)
    else if k = 6 then (l.length == 1 && !(passAny fl l))
    else if k = 7 then passAll fl l else if k = 8 then passAny fl l else false
def passAll (fl : List Fld) : List Cond → Bool
  | [] => true
  | c :: r => passes fl c && passAll fl r
def passAny (fl : List Fld) : List Cond → Bool
  | [] => false
  | c :: r => passes fl c || passAny fl r
end
theorem passAll_eq (fl : List Fld) (l : List Cond) : passAll fl l = l.all (passes fl) := by
  induction l with
  | nil => rfl
  | cons c r ih => simp [passAll, ih]
theorem passAny_eq (fl : List Fld) (l : List Cond) : passAny fl l = l.any (passes fl) := by
  induction l with
  | nil => rfl
  | cons c r ih => simp [passAny, ih]

theorem passAll_none {fl : List Fld} {l : List Cond} {k : Nat} (h : ∀ j (hj : j < l.length), j < k → (!passes fl l[j]) = false) (hk : l.length ≤ k) : passAll fl l = true := by
  rw [passAll_eq, List.all_eq_true]
  intro x hx
  obtain ⟨j, hj, rfl⟩ := List.getElem_of_mem hx
  simpa using h j hj (by omega)
theorem passAll_hit {fl : List Fld} {l : List Cond} {k : Nat} (hk : k < l.length) (h : passes fl l[k] = false) : passAll fl l = false := by
  rw [passAll_eq, List.all_eq_false]
  exact ⟨l[k], List.getElem_mem hk, by simp [h]⟩
theorem passAny_none {fl : List Fld} {l : List Cond} {k : Nat} (h : ∀ j (hj : j < l.length), j < k → passes fl l[j] = false) (hk : l.length ≤ k) : passAny fl l = false := by
  rw [passAny_eq, List.any_eq_false]
  intro x hx
  obtain ⟨j, hj, rfl⟩ := List.getElem_of_mem hx
  simpa using h j hj (by omega)
theorem passAny_hit {fl : List Fld} {l : List Cond} {k : Nat} (hk : k < l.length) (h : passes fl l[k] = true) : passAny fl l = true := by
  rw [passAny_eq, List.any_eq_true]
  exact ⟨l[k], List.getElem_mem hk, h⟩
/-- What a condition's cells are; n: at most so deep. -/
def RC (H : PH) : Nat → Cond → List Value → Prop
  | 0, _, _ => False
  | n + 1, .mk k nm v lo hi l, cs => ∃ L, cs = [.int .i64 k, .string nm, .int .i64 v.kind, .int .i64 v.n, .string v.text, .int .i64 lo, .int .i64 hi, L] ∧ RSl (RC H n) 8 H l L
end Go.Proofs.YteoeahmfpohpeaaDoor
