/- Plain: the check sum (CRC-32), bit by bit and by a table; one byte turned turns it. -/
namespace Go.Proofs.YteeckkkcebljmaaDoor

def step1 (c : Nat) : Nat := if c % 2 = 1 then (c / 2) ^^^ 3988292384 else c / 2
def stepN : Nat → Nat → Nat
  | 0, c => c
  | n + 1, c => stepN n (step1 c)
def crcUpd (c : Nat) (x : UInt8) : Nat := stepN 8 (c ^^^ x.toNat)
def crcGo (c : Nat) (l : List UInt8) : Nat := l.foldl crcUpd c
def crc (l : List UInt8) : Nat := crcGo 4294967295 l ^^^ 4294967295

theorem step1_lt {c : Nat} (h : c < 2 ^ 32) : step1 c < 2 ^ 32 := by
  unfold step1
  split
  · exact Nat.xor_lt_two_pow (by omega) (by decide)
  · omega
theorem stepN_lt : ∀ (n : Nat) {c : Nat}, c < 2 ^ 32 → stepN n c < 2 ^ 32
  | 0, _, h => h
  | n + 1, _, h => stepN_lt n (step1_lt h)
theorem byte_lt (x : UInt8) : x.toNat < 2 ^ 32 := Nat.lt_trans x.toNat_lt (by decide)
theorem crcUpd_lt {c : Nat} (h : c < 2 ^ 32) (x : UInt8) : crcUpd c x < 2 ^ 32 := stepN_lt 8 (Nat.xor_lt_two_pow h (byte_lt x))
theorem crcGo_lt : ∀ (l : List UInt8) {c : Nat}, c < 2 ^ 32 → crcGo c l < 2 ^ 32
  | [], _, h => h
  | x :: r, _, h => crcGo_lt r (crcUpd_lt h x)
theorem crc_lt (l : List UInt8) : crc l < 2 ^ 32 := Nat.xor_lt_two_pow (crcGo_lt l (by decide)) (by decide)

theorem xor_cancel {a b c : Nat} (h : a ^^^ c = b ^^^ c) : a = b := by
  have := congrArg (· ^^^ c) h
  simpa [Nat.xor_assoc] using this
/-- The highest bit of what comes tells whether the lowest was set. -/
theorem step1_high {c : Nat} (h : c < 2 ^ 32) : (step1 c).testBit 31 = decide (c % 2 = 1) := by
  have h2 : (c / 2).testBit 31 = false := Nat.testBit_lt_two_pow (by omega)
  unfold step1
  split
  · rename_i hc
    rw [Nat.testBit_xor, h2]
    simp [hc]
    decide
  · rename_i hc
    rw [h2]
    simp [hc]
theorem step1_inj {c d : Nat} (hc : c < 2 ^ 32) (hd : d < 2 ^ 32) (h : step1 c = step1 d) : c = d := by
  have h1 := step1_high hc
  have h2 := step1_high hd
  rw [h, h2] at h1
  have hp : (c % 2 = 1) ↔ (d % 2 = 1) := by
    have := decide_eq_decide.1 h1
    exact this.symm
  unfold step1 at h
  by_cases hcp : c % 2 = 1
  · rw [if_pos hcp, if_pos (hp.1 hcp)] at h
    have := xor_cancel h
    have := hp.1 hcp
    omega
  · rw [if_neg hcp, if_neg (fun e => hcp (hp.2 e))] at h
    have : ¬ d % 2 = 1 := fun e => hcp (hp.2 e)
    omega
theorem stepN_inj : ∀ (n : Nat) {c d : Nat}, c < 2 ^ 32 → d < 2 ^ 32 → stepN n c = stepN n d → c = d
  | 0, _, _, _, _, h => h
  | n + 1, _, _, hc, hd, h => step1_inj hc hd (stepN_inj n (step1_lt hc) (step1_lt hd) h)
theorem crcUpd_inj {c d : Nat} (hc : c < 2 ^ 32) (hd : d < 2 ^ 32) {x : UInt8} (h : crcUpd c x = crcUpd d x) : c = d :=
  xor_cancel (stepN_inj 8 (Nat.xor_lt_two_pow hc (byte_lt x)) (Nat.xor_lt_two_pow hd (byte_lt x)) h)
theorem crcGo_inj : ∀ (l : List UInt8) {c d : Nat}, c < 2 ^ 32 → d < 2 ^ 32 → crcGo c l = crcGo d l → c = d
  | [], _, _, _, _, h => h
  | x :: r, _, _, hc, hd, h => crcUpd_inj hc hd (crcGo_inj r (crcUpd_lt hc x) (crcUpd_lt hd x) h)
theorem crcUpd_byte {c : Nat} (hc : c < 2 ^ 32) {x y : UInt8} (h : crcUpd c x = crcUpd c y) : x = y := by
  have := stepN_inj 8 (Nat.xor_lt_two_pow hc (byte_lt x)) (Nat.xor_lt_two_pow hc (byte_lt y)) h
  rw [Nat.xor_comm c, Nat.xor_comm c] at this
  exact UInt8.toNat_inj.1 (xor_cancel this)
/-- One byte turned turns the sum. -/
theorem crc_turn {a b : List UInt8} {x y : UInt8} (h : crc (a ++ x :: b) = crc (a ++ y :: b)) : x = y := by
  have h1 := xor_cancel h
  unfold crcGo at h1
  rw [List.foldl_append, List.foldl_append, List.foldl_cons, List.foldl_cons] at h1
  have hc := crcGo_lt a (c := 4294967295) (by decide)
  exact crcUpd_byte hc (crcGo_inj b (crcUpd_lt hc x) (crcUpd_lt hc y) h1)

/-! ### By a table -/
theorem step1_xor (a b : Nat) : step1 (a ^^^ b) = step1 a ^^^ step1 b := by
  have hdiv : (a ^^^ b) / 2 = a / 2 ^^^ b / 2 := by
    have := Nat.shiftRight_xor_distrib (a := a) (b := b) (i := 1)
    simpa [Nat.shiftRight_eq_div_pow] using this
  have hmod : (a ^^^ b) % 2 = (a + b) % 2 := by
    have h : (a ^^^ b).testBit 0 = ((a.testBit 0) ^^ (b.testBit 0)) := Nat.testBit_xor ..
    simp only [Nat.testBit_zero] at h
    rcases Nat.mod_two_eq_zero_or_one a with ha | ha <;> rcases Nat.mod_two_eq_zero_or_one b with hb | hb <;> rcases Nat.mod_two_eq_zero_or_one (a ^^^ b) with hc | hc <;> simp [ha, hb, hc] at h <;> omega
  unfold step1
  rw [hdiv, hmod]
  rcases Nat.mod_two_eq_zero_or_one a with ha | ha <;> rcases Nat.mod_two_eq_zero_or_one b with hb | hb
  · rw [if_neg (by omega), if_neg (by omega), if_neg (by omega)]
  · rw [if_pos (by omega), if_neg (by omega), if_pos hb, Nat.xor_assoc]
  · rw [if_pos (by omega), if_pos ha, if_neg (by omega), Nat.xor_assoc, Nat.xor_assoc, Nat.xor_comm 3988292384]
  · rw [if_neg (by omega), if_pos ha, if_pos hb]
    rw [Nat.xor_assoc, ← Nat.xor_assoc 3988292384, Nat.xor_comm 3988292384 (b / 2), Nat.xor_assoc (b / 2), Nat.xor_self, Nat.xor_zero]
theorem stepN_xor : ∀ (n a b : Nat), stepN n (a ^^^ b) = stepN n a ^^^ stepN n b
  | 0, _, _ => rfl
  | n + 1, a, b => by simp only [stepN]; rw [step1_xor, stepN_xor n]
theorem step1_even (k : Nat) : step1 (2 * k) = k := by
  unfold step1
  rw [if_neg (by omega)]
  omega
theorem stepN_high (k : Nat) : stepN 8 (256 * k) = k := by
  simp only [stepN]
  rw [show 256 * k = 2 * (128 * k) by omega, step1_even, show 128 * k = 2 * (64 * k) by omega, step1_even, show 64 * k = 2 * (32 * k) by omega, step1_even, show 32 * k = 2 * (16 * k) by omega, step1_even,
    show 16 * k = 2 * (8 * k) by omega, step1_even, show 8 * k = 2 * (4 * k) by omega, step1_even, show 4 * k = 2 * (2 * k) by omega, step1_even, step1_even]
theorem split_byte (d : Nat) : d = (d % 256) ^^^ (256 * (d / 256)) := by
  apply Nat.eq_of_testBit_eq
  intro i
  rw [Nat.testBit_xor, show 256 * (d / 256) = 2 ^ 8 * (d / 2 ^ 8) by rfl, show d % 256 = d % 2 ^ 8 by rfl, Nat.testBit_mod_two_pow, Nat.testBit_two_pow_mul, Nat.testBit_div_two_pow]
  by_cases h : i < 8
  · simp [h, show ¬ 8 ≤ i by omega]
  · simp [h, show 8 ≤ i by omega, show i - 8 + 8 = i by omega]
theorem xor_high (c : Nat) (x : UInt8) : (c ^^^ x.toNat) / 256 = c / 256 := by
  have h := Nat.shiftRight_xor_distrib (a := c) (b := x.toNat) (i := 8)
  simp only [Nat.shiftRight_eq_div_pow] at h
  have hx : x.toNat / 2 ^ 8 = 0 := Nat.div_eq_of_lt x.toNat_lt
  rw [hx, Nat.xor_zero] at h
  exact h
theorem crcUpd_tab (c : Nat) (x : UInt8) : crcUpd c x = stepN 8 ((c ^^^ x.toNat) % 256) ^^^ (c / 256) := by
  unfold crcUpd
  conv => lhs; rw [split_byte (c ^^^ x.toNat), stepN_xor, stepN_high, xor_high]
end Go.Proofs.YteeckkkcebljmaaDoor
