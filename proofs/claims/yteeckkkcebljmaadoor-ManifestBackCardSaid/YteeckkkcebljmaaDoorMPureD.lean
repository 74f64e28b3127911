/- Plain: a manifest's lines with one byte turned are no manifest's. -/
import Derived.Test.YteeckkkcebljmaaDoorMPureB
namespace Go.Proofs.YteeckkkcebljmaaDoor
open Go.Lib

theorem nil_or_snoc {α : Type} (l : List α) : l = [] ∨ ∃ t c, l = t ++ [c] := by
  rcases l.eq_nil_or_concat with h | ⟨t, c, h⟩
  · exact .inl h
  · exact .inr ⟨t, c, by rw [h]; simp⟩
theorem last_line {p q p' q' : Str} (h : p ++ q = p' ++ q') (hq : (10 : UInt8) ∉ q) (hq' : (10 : UInt8) ∉ q') (hp : ∃ x, p = x ++ [10]) (hp' : ∃ x, p' = x ++ [10]) : p = p' ∧ q = q' := by
  rcases List.append_eq_append_iff.1 h with ⟨t, e1, e2⟩ | ⟨t, e1, e2⟩
  · rcases nil_or_snoc t with rfl | ⟨t', c, rfl⟩
    · simp at e1 e2; exact ⟨e1.symm, e2⟩
    · exfalso
      obtain ⟨x, hx⟩ := hp'
      rw [hx, ← List.append_assoc] at e1
      have := List.append_inj_right' e1 rfl
      simp at this
      subst this
      apply hq
      rw [e2]
      simp
  · rcases nil_or_snoc t with rfl | ⟨t', c, rfl⟩
    · simp at e1 e2; exact ⟨e1, e2.symm⟩
    · exfalso
      obtain ⟨x, hx⟩ := hp
      rw [hx, ← List.append_assoc] at e1
      have := List.append_inj_right' e1 rfl
      simp at this
      subst this
      apply hq'
      rw [e2]
      simp
theorem unl_end {ls : List Str} (h : ls ≠ []) : ∃ x, unl ls = x ++ [10] := by
  rcases nil_or_snoc ls with rfl | ⟨t, c, rfl⟩
  · exact absurd rfl h
  · exact ⟨unl t ++ c, by simp [unl]⟩
theorem unl_app (a b : List Str) : unl (a ++ b) = unl a ++ unl b := by simp [unl]
theorem body_end (m : Man) : ∃ x, body m = x ++ [10] := unl_end (by simp [heads])
theorem text_last {m : Man} {p q : Str} (h : text m = p ++ q ++ [10]) (hq : (10 : UInt8) ∉ q) (hp : ∃ x, p = x ++ [10]) : body m = p ∧ sumLine (body m) = q := by
  unfold text at h
  rw [← List.append_assoc] at h
  exact last_line (List.append_inj_left' h rfl) (no10_sum _) hq (body_end m) hp
/-- The last line ahead of the sum. -/
theorem heads_last (m : Man) : ∃ front l, heads m = front ++ [l] ∧ front ≠ [] ∧ ∃ x, l = wLog ++ x ∨ l = wSegm ++ x := by
  obtain ⟨sg, lg, nx, sq⟩ := m
  rcases nil_or_snoc sg with rfl | ⟨t, c, rfl⟩
  · exact ⟨[wLode, wNext ++ itoa nx, wSeq ++ itoa sq], _, rfl, by simp, _, .inl rfl⟩
  · exact ⟨wLode :: (wNext ++ itoa nx) :: (wSeq ++ itoa sq) :: (wLog ++ bl lg) :: t.map (fun x => wSegm ++ bl x), wSegm ++ bl c, by simp [heads], by simp, bl c, .inr rfl⟩
theorem sum_inj {a b : Str} (h : sumLine a = sumLine b) : crc a = crc b := dec_inj (List.append_cancel_left h)
theorem sum_head (b : Str) : ∃ r, sumLine b = 115 :: 117 :: r := ⟨_, rfl⟩
theorem turn_body {m k : Man} (hm : May m) {a c : Str} {x y : UInt8} (hb : body m = a ++ x :: c) (hk : text k = a ++ y :: c ++ (sumLine (body m) ++ [10])) (hxy : x ≠ y) : False := by
  rcases nil_or_snoc c with rfl | ⟨c', z, rfl⟩
  · obtain ⟨e, he⟩ := body_end m
    rw [hb] at he
    have hx : x = 10 := by simpa using List.append_inj_right' he rfl
    subst hx
    obtain ⟨front, l, hh, hf, t, hl⟩ := heads_last m
    have ha : a = unl front ++ l := by
      have h1 : body m = unl front ++ l ++ [10] := by unfold body; rw [hh, unl_app]; simp [unl]
      rw [hb] at h1
      exact List.append_inj_left' h1 rfl
    have hn : (10 : UInt8) ∉ l := no10_heads hm l (by rw [hh]; simp)
    have := (text_last (m := k) (p := unl front) (q := l ++ y :: sumLine (body m)) (by rw [hk, ha]; simp) (by
      rw [List.mem_append, List.mem_cons]
      rintro (h | h | h)
      · exact hn h
      · exact hxy h
      · exact no10_sum _ h) (unl_end hf)).2
    obtain ⟨r, hr⟩ := sum_head (body k)
    rw [hr] at this
    rcases hl with rfl | rfl
    · simp [wLog] at this
    · simp [wSegm] at this
  · obtain ⟨e, he⟩ := body_end m
    rw [hb] at he
    have hz : z = 10 := by
      have : (a ++ x :: c') ++ [z] = e ++ [10] := by rw [← he]; simp
      simpa using List.append_inj_right' this rfl
    subst hz
    have h1 := text_last (m := k) (p := a ++ y :: (c' ++ [10])) (q := sumLine (body m)) (by rw [hk]; simp) (no10_sum _) ⟨a ++ y :: c', by simp⟩
    have h2 := sum_inj h1.2
    rw [h1.1, hb] at h2
    exact hxy (crc_turn h2).symm
theorem turn_sum {m k : Man} {a c : Str} {x y : UInt8} (hb : sumLine (body m) = a ++ x :: c) (hk : text k = body m ++ (a ++ y :: c) ++ [10]) (hxy : x ≠ y) : False := by
  have hno := no10_sum (body m)
  rw [hb] at hno
  have hna : (10 : UInt8) ∉ a := fun h => hno (by simp [h])
  have hnc : (10 : UInt8) ∉ c := fun h => hno (by simp [h])
  by_cases hy : y = 10
  · subst hy
    have h1 := (text_last (m := k) (p := body m ++ a ++ [10]) (q := c) (by rw [hk]; simp) hnc ⟨_, rfl⟩).2
    obtain ⟨r, hr⟩ := sum_head (body k)
    rw [hr] at h1
    have hd := dec_digit (crc (body m))
    unfold sumLine wSum at hb
    match a, hb with
    | [], hb => simp at hb; obtain ⟨_, hb⟩ := hb; rw [← h1] at hb; simp at hb
    | [_], hb => simp at hb; obtain ⟨_, _, hb⟩ := hb; rw [← h1] at hb; simp at hb
    | [_, _], hb => simp at hb; obtain ⟨_, _, _, hb⟩ := hb; rw [← h1] at hb; simp at hb
    | [_, _, _], hb =>
      simp at hb
      obtain ⟨_, _, _, _, hb⟩ := hb
      rw [← h1] at hb
      have := hd 115 (by rw [hb]; simp)
      have e : (115 : UInt8).toNat = 115 := rfl
      omega
    | _ :: _ :: _ :: _ :: t, hb =>
      simp at hb
      obtain ⟨_, _, _, _, hb⟩ := hb
      rw [← h1] at hb
      have := hd 115 (by rw [hb]; simp)
      have e : (115 : UInt8).toNat = 115 := rfl
      omega
  · have h1 := text_last (m := k) (p := body m) (q := a ++ y :: c) hk (by
      rw [List.mem_append, List.mem_cons]
      rintro (h | h | h)
      · exact hna h
      · exact hy h.symm
      · exact hnc h) (body_end m)
    have h2 := h1.2
    rw [h1.1, hb] at h2
    have := List.append_cancel_left h2
    simp at this
    exact hxy this
/-- One byte turned: no manifest. -/
theorem dec_turn {m : Man} (hm : May m) {i : Nat} (hi : i < (text m).length) {y : UInt8} (hy : y ≠ (text m)[i]) : decP ((text m).set i y) = none := by
  cases hp : decP ((text m).set i y) with
  | none => rfl
  | some k =>
    exfalso
    obtain ⟨_, hk⟩ := decP_some hp
    have hsplit : text m = (text m).take i ++ (text m)[i] :: (text m).drop (i + 1) := by rw [List.getElem_cons_drop, List.take_append_drop]
    have hset : (text m).set i y = (text m).take i ++ y :: (text m).drop (i + 1) := List.set_eq_take_append_cons_drop ▸ by rw [if_pos hi]
    rw [hset] at hk
    generalize (text m)[i] = x at hy hsplit
    generalize (text m).take i = a at hsplit hk
    generalize (text m).drop (i + 1) = c at hsplit hk
    have hxy : x ≠ y := fun e => hy e.symm
    unfold text at hsplit
    rcases List.append_eq_append_iff.1 hsplit with ⟨t, e1, e2⟩ | ⟨t, e1, e2⟩
    · -- a = body ++ t ; sum.. = t ++ x :: c
      rcases nil_or_snoc c with rfl | ⟨c', z, rfl⟩
      · have hx : x = 10 := by simpa using (List.append_inj_right' e2 rfl).symm
        obtain ⟨l, e3, _⟩ := last_text k
        rw [hk] at e3
        have : y = 10 := by simpa using List.append_inj_right' e3 rfl
        exact hxy (hx.trans this.symm)
      · have hz : z = 10 := by
          have : sumLine (body m) ++ [10] = (t ++ x :: c') ++ [z] := by rw [e2]; simp
          simpa using (List.append_inj_right' this rfl).symm
        subst hz
        have e3 : sumLine (body m) = t ++ x :: c' := by
          have : sumLine (body m) ++ [10] = (t ++ x :: c') ++ [10] := by rw [e2]; simp
          exact List.append_cancel_right this
        exact turn_sum (m := m) (k := k) e3 (by rw [hk, e1]; simp) hxy
    · -- body = a ++ t ; x :: c = t ++ sum..
      match t, e1, e2 with
      | [], e1, e2 =>
        obtain ⟨r, hr⟩ := sum_head (body m)
        rw [hr, List.nil_append, List.cons_append] at e2
        rw [List.append_nil] at e1
        injection e2 with e3 e4
        subst e3
        exact turn_sum (m := m) (k := k) (a := []) (x := 115) (c := 117 :: r) (y := y) hr (by rw [hk, e1, e4]; simp) hxy
      | x' :: t', e1, e2 =>
        simp at e2
        obtain ⟨rfl, e2⟩ := e2
        exact turn_body hm e1 (by rw [hk, e2]; simp) hxy
end Go.Proofs.YteeckkkcebljmaaDoor
