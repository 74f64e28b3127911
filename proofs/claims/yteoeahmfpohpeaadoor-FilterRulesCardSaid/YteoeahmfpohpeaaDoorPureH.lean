/- Plain: the points that pass and those that pass the opposite are all points, each once. -/
import Derived.Test.YteoeahmfpohpeaaDoorPureF
import Derived.Test.YteoeahmfpohpeaaDoorWalkM
import Derived.Test.YteoeahmfpohpeaaDoorWalkT
namespace Go.Proofs.YteoeahmfpohpeaaDoor
set_option linter.unusedVariables false
set_option linter.unusedSimpArgs false

/-- The first point of each id. -/
def firsts (l : List Pt) : List Pt := l.foldl (fun a p => if decide (p.id ∈ a.map (·.id)) = true then a else a ++ [p]) []
theorem firsts_succ {l : List Pt} {k : Nat} (hk : k < l.length) : firsts (l.take (k + 1)) = if decide (l[k].id ∈ (firsts (l.take k)).map (·.id)) = true then firsts (l.take k) else firsts (l.take k) ++ [l[k]] := by
  rw [List.take_succ_eq_append_getElem hk]
  unfold firsts
  rw [List.foldl_append]
  rfl
theorem firsts_fold (l : List Pt) : ∀ acc : List Pt, (acc.map (·.id)).Nodup → ((l.foldl (fun a p => if decide (p.id ∈ a.map (·.id)) = true then a else a ++ [p]) acc).map (·.id)).Nodup ∧ (l.foldl (fun a p => if decide (p.id ∈ a.map (·.id)) = true then a else a ++ [p]) acc).length ≤ acc.length + l.length := by
  induction l with
  | nil => intro acc h; exact ⟨h, by simp⟩
  | cons p r ih =>
    intro acc h
    simp only [List.foldl_cons]
    by_cases hp : p.id ∈ acc.map (·.id)
    · rw [if_pos (by simpa using hp)]
      obtain ⟨h1, h2⟩ := ih acc h
      exact ⟨h1, by simp only [List.length_cons]; omega⟩
    · rw [if_neg (by simpa using hp)]
      have hn : ((acc ++ [p]).map (·.id)).Nodup := by
        rw [List.map_append, List.nodup_append]
        refine ⟨h, by simp, fun a ha b hb => ?_⟩
        simp at hb
        subst hb
        intro e
        exact hp (e ▸ ha)
      obtain ⟨h1, h2⟩ := ih _ hn
      exact ⟨h1, by simp only [List.length_cons, List.length_append, List.length_nil] at h2 ⊢; omega⟩
theorem firsts_nodup (l : List Pt) : ((firsts l).map (·.id)).Nodup := (firsts_fold l [] (by simp)).1
theorem firsts_length_le (l : List Pt) : (firsts l).length ≤ l.length := by have := (firsts_fold l [] (by simp)).2; simpa [firsts] using this

theorem insAll_rise (xs : List Int) : Rising (insAll xs []) := insAll_rising List.Pairwise.nil
theorem mem_insAll0 {x : Int} {xs : List Int} : x ∈ insAll xs [] ↔ x ∈ xs := by rw [mem_insAll]; simp
theorem rising_nodup {xs : List Int} (h : Rising xs) : xs.Nodup := h.imp (fun hab => by omega)
theorem insAll_self {xs : List Int} (h : Rising xs) : insAll xs [] = xs := rising_ext (insAll_rise xs) h (fun x => mem_insAll0)
theorem insAll_length {xs : List Int} (h : xs.Nodup) : (insAll xs []).length = xs.length :=
  ((List.perm_ext_iff_of_nodup (rising_nodup (insAll_rise xs)) h).2 (fun x => mem_insAll0)).length_eq

theorem hits_nodup (c : Cond) {l : List Pt} (h : (l.map (·.id)).Nodup) : (hits c l).Nodup := by
  unfold hits
  exact h.sublist ((List.filter_sublist).map _)
theorem mem_hits {c : Cond} {l : List Pt} {x : Int} : x ∈ hits c l ↔ ∃ p ∈ l, passes p.flds c = true ∧ p.id = x := by
  unfold hits
  simp only [List.mem_map, List.mem_filter]
  constructor
  · rintro ⟨p, ⟨h1, h2⟩, h3⟩; exact ⟨p, h1, h2, h3⟩
  · rintro ⟨p, h1, h2, h3⟩; exact ⟨p, ⟨h1, h2⟩, h3⟩
theorem same_id {l : List Pt} (h : (l.map (·.id)).Nodup) {p q : Pt} (hp : p ∈ l) (hq : q ∈ l) (e : p.id = q.id) : p = q := by
  obtain ⟨i, hi, rfl⟩ := List.mem_iff_getElem.1 hp
  obtain ⟨j, hj, rfl⟩ := List.mem_iff_getElem.1 hq
  have := (List.nodup_iff_pairwise_ne.1 h)
  rw [List.pairwise_iff_getElem] at this
  rcases Nat.lt_trichotomy i j with hij | hij | hij
  · exact absurd (by rw [List.getElem_map, List.getElem_map]; exact e) (this i j (by simpa using hi) (by simpa using hj) hij)
  · subst hij; rfl
  · exact absurd (by rw [List.getElem_map, List.getElem_map]; exact e.symm) (this j i (by simpa using hj) (by simpa using hi) hij)

section
variable {c d : Cond} {l : List Pt} (hd : ∀ fl, passes fl d = !passes fl c)
include hd
theorem hits_length : (hits c l).length + (hits d l).length = l.length := by
  unfold hits
  simp only [List.length_map]
  induction l with
  | nil => rfl
  | cons p r ih =>
    simp only [List.filter_cons, hd] at ih ⊢
    cases passes p.flds c
    · simp only [Bool.not_false, Bool.false_eq_true, if_true, if_false, List.length_cons]; omega
    · simp only [Bool.not_true, Bool.false_eq_true, if_true, if_false, List.length_cons]; omega
theorem parts_inter (h : (l.map (·.id)).Nodup) : both (insAll (insAll (hits c l) []) []) (insAll (insAll (hits d l) []) []) = [] := by
  unfold both
  rw [List.filter_eq_nil_iff]
  intro x hx hy
  rw [mem_insAll0, mem_insAll0, mem_hits] at hx
  rw [decide_eq_true_iff, mem_insAll0, mem_insAll0, mem_hits] at hy
  obtain ⟨p, p1, p2, p3⟩ := hx
  obtain ⟨q, q1, q2, q3⟩ := hy
  have := same_id h p1 q1 (by omega)
  subst this
  rw [hd, p2] at q2
  cases q2
theorem parts_union : insAll (insAll (hits d l) []) (insAll (insAll (hits c l) []) []) = insAll (l.map (·.id)) [] := by
  refine rising_ext (insAll_rising (insAll_rise _)) (insAll_rise _) (fun x => ?_)
  rw [mem_insAll, mem_insAll0, mem_insAll0, mem_insAll0, mem_insAll0, mem_hits, mem_hits, List.mem_map]
  constructor
  · rintro (⟨p, p1, _, p3⟩ | ⟨p, p1, _, p3⟩) <;> exact ⟨p, p1, p3⟩
  · rintro ⟨p, p1, p3⟩
    cases hp : passes p.flds c
    · exact .inl ⟨p, p1, by rw [hd, hp]; rfl, p3⟩
    · exact .inr ⟨p, p1, hp, p3⟩
theorem parts_length (h : (l.map (·.id)).Nodup) : (insAll (hits c l) []).length + (insAll (hits d l) []).length = (l.map (·.id)).length := by
  rw [insAll_length (hits_nodup c h), insAll_length (hits_nodup d h), hits_length hd, List.length_map]
end
end Go.Proofs.YteoeahmfpohpeaaDoor
