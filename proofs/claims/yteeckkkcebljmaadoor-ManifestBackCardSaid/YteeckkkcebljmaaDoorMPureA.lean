/- Plain: numerals, names of files, manifests. No Go, no memory. -/
import Derived.Lib.AtoiAllCases
import Derived.Lib.Atoi
import Derived.Lib.ItoaNum
import Derived.Lib.SplitLaws
namespace Go.Proofs.YteeckkkcebljmaaDoor
open Go.Lib

abbrev Str := List UInt8
/-! ### Numerals -/
theorem parse_snoc : ∀ (l : Str) (acc : Nat) (c : UInt8), parseUint10 acc (l ++ [c]) = match parseUint10 acc l with | .ok v => parseUint10 v [c] | .syntax => .syntax | .range => .range
  | [], acc, c => by simp [parseUint10]
  | x :: r, acc, c => by
    have ih := parse_snoc r
    rw [List.cons_append, parseUint10, parseUint10.eq_2 acc x r]
    split
    · split
      · rfl
      · split
        · rfl
        · rw [ih]
    · rfl
theorem dg_nat {u : Nat} (h : u < 10) : (UInt8.ofNat (48 + u)).toNat = 48 + u := by
  rw [UInt8.toNat_ofNat']; omega
theorem parse_dec (u : Nat) (h : u < 18446744073709551616) : parseUint10 0 (decDigits u) = .ok u := by
  induction u using Nat.strongRecOn with
  | _ u ih =>
    by_cases h1 : u < 10
    · rw [decDigits, dif_pos h1]
      simp only [parseUint10, dg_nat h1]
      rw [if_pos (by omega), if_neg (by omega), if_neg (by omega)]
      simp
    · rw [decDigits, dif_neg h1, parse_snoc, ih (u / 10) (by omega) (by omega)]
      have h10 : u % 10 < 10 := Nat.mod_lt _ (by decide)
      simp only [parseUint10, dg_nat h10]
      rw [if_pos (by omega), if_neg (by omega), if_neg (by omega)]
      congr 1
      omega
theorem dec_digit (u : Nat) : ∀ c ∈ decDigits u, 48 ≤ c.toNat ∧ c.toNat ≤ 57 := by
  induction u using Nat.strongRecOn with
  | _ u ih =>
    intro c hc
    by_cases h1 : u < 10
    · rw [decDigits, dif_pos h1] at hc
      rw [List.mem_singleton] at hc
      subst hc
      rw [dg_nat h1]; omega
    · rw [decDigits, dif_neg h1] at hc
      have h10 : u % 10 < 10 := Nat.mod_lt _ (by decide)
      rw [List.mem_append, List.mem_singleton] at hc
      rcases hc with hc | rfl
      · exact ih (u / 10) (by omega) c hc
      · rw [dg_nat h10]; omega
theorem dec_ne (u : Nat) : decDigits u ≠ [] := by
  intro h
  have h1 := decDigits_length u
  have h2 := nDigits_pos u
  rw [h, List.length_nil] at h1
  omega
theorem atoi_dec (u : Nat) (h : u < 9223372036854775808) : atoiAll (decDigits u) = .ok (u : Int) := by
  have hp := parse_dec u (by omega)
  have hd := dec_digit u
  have hn := dec_ne u
  match hl : decDigits u, hn with
  | c :: r, _ =>
    rw [hl] at hp hd
    have := hd c (by simp)
    rw [atoiAll_plain c r (by omega) (by omega)]
    unfold parseMag
    rw [if_neg (by simp), hp]
    simp only [signless]
    rw [if_neg (by omega)]
theorem itoa_nat (u : Nat) : itoa (u : Int) = decDigits u := by
  unfold itoa
  rw [if_neg (by omega)]
  simp
/-- The program's numeral: the number, and whether it is a canonical one. -/
def numP (s : Str) : Int × Bool := match atoiAll s with
  | .ok n => (n, decide (0 ≤ n) && decide (itoa n = s))
  | .syntax => (0, false)
  | .range => (atoiSat s, false)
theorem numP_dec (u : Nat) (h : u < 9223372036854775808) : numP (decDigits u) = ((u : Int), true) := by
  unfold numP
  rw [atoi_dec u h]
  simp [itoa_nat]
theorem numP_ok {s : Str} (h : (numP s).2 = true) : ∃ u : Nat, u < 9223372036854775808 ∧ s = decDigits u ∧ (numP s).1 = (u : Int) := by
  unfold numP at *
  cases ha : atoiAll s with
  | ok n =>
    simp only [ha, Bool.and_eq_true, decide_eq_true_eq] at h ⊢
    have hb := atoiAll_bounds ha
    refine ⟨n.toNat, by omega, ?_, by omega⟩
    have := h.2
    rw [show n = ((n.toNat : Nat) : Int) by omega, itoa_nat] at this
    exact this.symm
  | _ => simp [ha] at h
theorem numP_bounds (s : Str) : -9223372036854775808 ≤ (numP s).1 ∧ (numP s).1 ≤ 9223372036854775807 := by
  unfold numP
  cases ha : atoiAll s with
  | ok n => exact atoiAll_bounds ha
  | range => exact atoiSat_bounds s
  | _ => simp

/-- The document's numeral. -/
def numRgo (acc : Int) : Str → Int
  | [] => if 4503599627370496 < acc then -1 else acc
  | c :: r => if c.toNat < 48 ∨ 57 < c.toNat then -1 else numRgo (acc * 10 + ((c.toNat : Int) - 48)) r
def numR (s : Str) : Int := if s = [] ∨ 16 < s.length ∨ (1 < s.length ∧ s.head? = some 48) then -1 else numRgo 0 s
theorem numRgo_eq : ∀ (l : Str) (acc : Nat), numRgo acc l = match decFrom acc l with | some m => if 4503599627370496 < m then -1 else (m : Int) | none => -1
  | [], acc => by
    simp only [numRgo, decFrom]
    by_cases h : 4503599627370496 < acc
    · rw [if_pos h, if_pos (by omega)]
    · rw [if_neg h, if_neg (by omega)]
  | c :: r, acc => by
    simp only [numRgo, decFrom, digitVal]
    by_cases h : c.toNat < 48 ∨ 57 < c.toNat
    · rw [if_pos h, if_neg (by omega)]
    · rw [if_neg h, if_pos (by omega)]
      have := numRgo_eq r (acc * 10 + (c.toNat - 48))
      rw [← this]
      congr 1
      omega
theorem decFrom_snoc : ∀ (l : Str) (acc : Nat) (c : UInt8), decFrom acc (l ++ [c]) = (decFrom acc l).bind fun v => (digitVal c).map fun d => v * 10 + d
  | [], acc, c => by cases h : digitVal c <;> simp [decFrom, h]
  | x :: r, acc, c => by
    rw [List.cons_append]
    simp only [decFrom]
    cases h : digitVal x with
    | none => simp
    | some d => simp [decFrom_snoc r]
theorem decFrom_dec (u : Nat) : decFrom 0 (decDigits u) = some u := by
  induction u using Nat.strongRecOn with
  | _ u ih =>
    by_cases h1 : u < 10
    · rw [decDigits, dif_pos h1]
      simp only [decFrom, digitVal, dg_nat h1]
      rw [if_pos (by omega)]
      simp
    · rw [decDigits, dif_neg h1, decFrom_snoc, ih (u / 10) (by omega)]
      have h10 : u % 10 < 10 := Nat.mod_lt _ (by decide)
      simp only [digitVal, dg_nat h10]
      rw [if_pos (by omega)]
      simp
      omega
theorem u8_of {c : UInt8} {d : Nat} (h : c.toNat = 48 + d) : c = UInt8.ofNat (48 + d) := by
  rw [← h]; simp
/-- Digits without a nought ahead are the numeral of what they spell. -/
theorem dec_of : ∀ (n : Nat) (l : Str) (m : Nat), l.length = n → l ≠ [] → ¬ (1 < l.length ∧ l.head? = some 48) → decFrom 0 l = some m → l = decDigits m := by
  intro n
  induction n with
  | zero => intro l m h hn; exact absurd (List.length_eq_zero_iff.1 h) hn
  | succ n ih =>
    intro l m hl hn h0 hd
    obtain ⟨l', c, rfl⟩ : ∃ l' c, l = l' ++ [c] := ⟨l.dropLast, l.getLast hn, (List.dropLast_concat_getLast hn).symm⟩
    rw [decFrom_snoc] at hd
    obtain ⟨v, hv, hd⟩ := Option.bind_eq_some_iff.1 hd
    obtain ⟨d, hdv, hm⟩ := Option.map_eq_some_iff.1 hd
    clear hd
    subst hm
    have hd := hdv
    unfold digitVal at hd
    split at hd
    · rename_i hc
      have hd2 : c.toNat - 48 = d := Option.some.inj hd
      have hcc : c = UInt8.ofNat (48 + d) := u8_of (by omega)
      by_cases hl' : l' = []
      · subst hl'
        simp only [decFrom, Option.some.injEq] at hv
        subst hv
        rw [decDigits, dif_pos (by omega), hcc]
        simp
      · have hh : (l' ++ [c]).head? = l'.head? := by cases l' with | nil => exact absurd rfl hl' | cons x r => rfl
        have hlen : l'.length = n := by simp at hl; omega
        have hpos : 0 < l'.length := List.length_pos_iff.2 hl'
        have hne : l'.head? ≠ some 48 := fun e => h0 ⟨by simp; omega, by rw [hh]; exact e⟩
        have hrec := ih l' v hlen hl' (fun ⟨_, e⟩ => hne e) hv
        have hv1 : 1 ≤ v := by
          rcases Nat.eq_zero_or_pos v with rfl | h
          · exfalso
            apply hne
            rw [hrec, decDigits, dif_pos (by omega)]
            rfl
          · exact h
        rw [decDigits, dif_neg (by omega), show (v * 10 + d) / 10 = v by omega, show (v * 10 + d) % 10 = d by omega, ← hrec, hcc]
    · cases hd
theorem nDigits_le : ∀ (k u : Nat), 1 ≤ k → u < 10 ^ k → nDigits u ≤ k
  | 0, _, h, _ => by omega
  | k + 1, u, _, h => by
    by_cases h1 : u < 10
    · rw [nDigits_small h1]; omega
    · rw [nDigits_big h1]
      rcases Nat.eq_zero_or_pos k with rfl | hk
      · simp at h; omega
      · have := nDigits_le k (u / 10) hk (by rw [Nat.pow_succ] at h; omega)
        omega
theorem dec_head (u : Nat) : ¬ (1 < (decDigits u).length ∧ (decDigits u).head? = some 48) := by
  induction u using Nat.strongRecOn with
  | _ u ih =>
    rintro ⟨h1, h2⟩
    by_cases hu : u < 10
    · rw [decDigits, dif_pos hu] at h1; simp at h1
    · rw [decDigits, dif_neg hu] at h1 h2
      have hn := dec_ne (u / 10)
      by_cases h3 : 1 < (decDigits (u / 10)).length
      · refine ih (u / 10) (by omega) ⟨h3, ?_⟩
        cases hd : decDigits (u / 10) with
        | nil => exact absurd hd hn
        | cons x r => rw [hd] at h2; simpa using h2
      · have h4 : u / 10 < 10 := by
          rcases Nat.lt_or_ge (u / 10) 10 with h | h
          · exact h
          · rw [decDigits_length, nDigits_big (by omega)] at h3
            have := nDigits_pos (u / 10 / 10)
            omega
        rw [decDigits, dif_pos h4] at h2
        have h5 : UInt8.ofNat (48 + u / 10) = 48 := by simpa only [List.singleton_append, List.head?_cons, Option.some.injEq] using h2
        have := congrArg UInt8.toNat h5
        rw [dg_nat h4] at this
        have e : (48 : UInt8).toNat = 48 := rfl
        omega
theorem numR_dec (u : Nat) (h : u ≤ 4503599627370496) : numR (decDigits u) = (u : Int) := by
  have h1 := dec_head u
  have h2 : (decDigits u).length ≤ 16 := by rw [decDigits_length]; exact nDigits_le 16 u (by omega) (by omega)
  unfold numR
  rw [if_neg (by rintro (h | h | h); exact dec_ne u h; omega; exact h1 h)]
  have := numRgo_eq (decDigits u) 0
  rw [decFrom_dec] at this
  simp only at this
  rw [if_neg (by omega)] at this
  simpa using this
theorem numR_ok {s : Str} (h : 0 ≤ numR s) : ∃ u : Nat, u ≤ 4503599627370496 ∧ s = decDigits u ∧ numR s = (u : Int) := by
  unfold numR at *
  split at h
  · omega
  · rename_i hc
    rw [if_neg hc]
    have e := numRgo_eq s 0
    simp only [Int.natCast_zero] at e
    cases hd : decFrom 0 s with
    | none => rw [hd] at e; rw [e] at h; simp at h
    | some m =>
      rw [hd] at e
      simp only at e
      split at e
      · rw [e] at h; omega
      · refine ⟨m, by omega, dec_of _ s m rfl (fun h => hc (.inl h)) (fun h => hc (.inr (.inr h))) hd, e⟩
theorem numR_ge (s : Str) : -1 ≤ numR s := by
  unfold numR
  split
  · omega
  · have e := numRgo_eq s 0
    simp only [Int.natCast_zero] at e
    rw [e]
    split
    · split <;> omega
    · omega
theorem dec_inj {u v : Nat} (h : decDigits u = decDigits v) : u = v := by
  have h1 := decFrom_dec u
  rw [h, decFrom_dec] at h1
  exact (Option.some.inj h1).symm

/-! ### Names of files -/
def fileP (s : Str) (next : Int) : Bool := match s with
  | c :: r => (c == 115 || c == 108) && (!r.isEmpty) && (numP r).2 && decide (1 ≤ (numP r).1) && decide ((numP r).1 < next)
  | [] => false
def fileR (s : Str) (next : Int) : Bool := match s with
  | c :: r => (c == 115 || c == 108) && decide (1 ≤ numR r) && decide (numR r < next)
  | [] => false
theorem fileP_eq (s : Str) (next : Int) (h : next ≤ 4503599627370496) : fileP s next = fileR s next := by
  cases s with
  | nil => rfl
  | cons c r =>
    rw [Bool.eq_iff_iff]
    simp only [fileP, fileR, Bool.and_eq_true, decide_eq_true_eq]
    constructor
    · rintro ⟨⟨⟨⟨h1, h2⟩, h3⟩, h4⟩, h5⟩
      obtain ⟨u, hu, rfl, e⟩ := numP_ok h3
      rw [e] at h4 h5
      rw [numR_dec u (by omega)]
      exact ⟨⟨h1, h4⟩, h5⟩
    · rintro ⟨⟨h1, h2⟩, h3⟩
      obtain ⟨u, hu, rfl, e⟩ := numR_ok (s := r) (by omega)
      rw [e] at h2 h3
      rw [numP_dec u (by omega)]
      exact ⟨⟨⟨⟨h1, by cases hd : decDigits u with | nil => exact absurd hd (dec_ne u) | cons _ _ => rfl⟩, rfl⟩, h2⟩, h3⟩
/-- What a file's name is made of. -/
theorem file_form {s : Str} {next : Int} (h : fileR s next = true) : ∃ c u, (c = 115 ∨ c = 108) ∧ s = c :: decDigits u ∧ 1 ≤ u ∧ (u : Int) < next ∧ u ≤ 4503599627370496 := by
  cases s with
  | nil => simp [fileR] at h
  | cons c r =>
    simp only [fileR, Bool.and_eq_true, decide_eq_true_eq, Bool.or_eq_true, beq_iff_eq] at h
    obtain ⟨⟨h1, h2⟩, h3⟩ := h
    obtain ⟨u, hu, rfl, e⟩ := numR_ok (s := r) (by omega)
    exact ⟨c, u, h1, rfl, by omega, by omega, hu⟩
end Go.Proofs.YteeckkkcebljmaaDoor
