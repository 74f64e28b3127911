/- Plain: manifests, their lines, the two readings of lines. No Go, no memory. -/
import Derived.Test.YteeckkkcebljmaaDoorMPureA
import Derived.Test.YteeckkkcebljmaaDoorMPureC
namespace Go.Proofs.YteeckkkcebljmaaDoor
open Go.Lib

def bl (b : ByteArray) : Str := b.data.toList
def toB (l : Str) : ByteArray := ⟨l.toArray⟩
theorem bl_toB (l : Str) : bl (toB l) = l := by simp [bl, toB]
theorem toB_bl (b : ByteArray) : toB (bl b) = b := by
  obtain ⟨⟨l⟩⟩ := b
  rfl
theorem bl_inj {a b : ByteArray} (h : bl a = bl b) : a = b := by rw [← toB_bl a, h, toB_bl]
theorem toB_inj {a b : Str} (h : toB a = toB b) : a = b := by rw [← bl_toB a, h, bl_toB]

structure Man where
  segs : List ByteArray
  log : ByteArray
  next : Int
  seq : Int
deriving DecidableEq
def Man.zero : Man := ⟨[], ⟨#[]⟩, 0, 0⟩

def May (m : Man) : Prop := 1 ≤ m.next ∧ m.next ≤ 4503599627370496 ∧ 0 ≤ m.seq ∧ m.seq ≤ 4503599627370496 ∧ fileR (bl m.log) m.next = true ∧ m.segs.length ≤ 1024 ∧ (∀ s ∈ m.segs, fileR (bl s) m.next = true) ∧ (m.log :: m.segs).Nodup
instance (m : Man) : Decidable (May m) := by unfold May; infer_instance
def mayB (m : Man) : Bool := decide (May m)

def wLode : Str := [108, 111, 100, 101, 115, 116, 97, 114, 32, 49]
def wNext : Str := [110, 101, 120, 116, 32]
def wSeq : Str := [115, 101, 113, 32]
def wLog : Str := [108, 111, 103, 32]
def wSegm : Str := [115, 101, 103, 109, 101, 110, 116, 32]
def wSum : Str := [115, 117, 109, 32]

/-- Each line and its end. -/
def unl (ls : List Str) : Str := ls.flatMap fun l => l ++ [10]
def heads (m : Man) : List Str := wLode :: (wNext ++ itoa m.next) :: (wSeq ++ itoa m.seq) :: (wLog ++ bl m.log) :: m.segs.map fun x => wSegm ++ bl x
def body (m : Man) : Str := unl (heads m)
def sumLine (b : Str) : Str := wSum ++ decDigits (crc b)
def text (m : Man) : Str := body m ++ (sumLine (body m) ++ [10])
def enc (m : Man) : Str × Int := if mayB m then (text m, 0) else ([], 110)

/-! ### Lines -/
def lines : Str → List Str
  | [] => [[]]
  | c :: r => if c = 10 then [] :: lines r else match lines r with
    | l :: ls => (c :: l) :: ls
    | [] => [[c]]
theorem lines_ne (s : Str) : lines s ≠ [] := by
  cases s with
  | nil => simp [lines]
  | cons c r => unfold lines; split; simp; split <;> simp
theorem lines_none : ∀ (l : Str), (10 : UInt8) ∉ l → lines l = [l]
  | [], _ => rfl
  | c :: r, h => by
    simp at h
    unfold lines
    rw [if_neg (fun e => h.1 e.symm), lines_none r h.2]
theorem lines_cons : ∀ (l r : Str), (10 : UInt8) ∉ l → lines (l ++ 10 :: r) = l :: lines r
  | [], r, _ => by simp [lines]
  | c :: t, r, h => by
    simp at h
    rw [List.cons_append, lines, if_neg (fun e => h.1 e.symm), lines_cons t r h.2]
theorem lines_unl : ∀ (ls : List Str) (r : Str), (∀ l ∈ ls, (10 : UInt8) ∉ l) → lines (unl ls ++ r) = ls ++ lines r
  | [], r, _ => rfl
  | l :: ls, r, h => by
    have e : unl (l :: ls) ++ r = l ++ 10 :: (unl ls ++ r) := by simp [unl]
    rw [e, lines_cons l _ (h l (by simp)), lines_unl ls r (fun x hx => h x (by simp [hx]))]
    rfl
/-- The lines, put together again. -/
theorem lines_join (s : Str) : (lines s).flatMap (fun l => l ++ [10]) = s ++ [10] := by
  induction s with
  | nil => rfl
  | cons c r ih =>
    unfold lines
    split
    · rename_i h; subst h; simp [ih]
    · have hn := lines_ne r
      cases hl : lines r with
      | nil => exact absurd hl hn
      | cons l ls => rw [hl] at ih; simp at ih ⊢; exact ih

/-! ### What stands in a line -/
theorem no10_dec (u : Nat) : (10 : UInt8) ∉ decDigits u := fun h => by
  have := dec_digit u 10 h
  have e : (10 : UInt8).toNat = 10 := rfl
  omega
theorem no10_file {s : Str} {next : Int} (h : fileR s next = true) : (10 : UInt8) ∉ s := by
  obtain ⟨c, u, hc, rfl, _⟩ := file_form h
  intro hm
  rcases List.mem_cons.1 hm with h | h
  · rcases hc with rfl | rfl <;> exact absurd h (by decide)
  · exact no10_dec u h
theorem itoa_of (n : Int) (h : 0 ≤ n) : itoa n = decDigits n.toNat := by
  obtain ⟨u, rfl⟩ := Int.eq_ofNat_of_zero_le h
  rw [itoa_nat, Int.toNat_natCast]
theorem no10_heads {m : Man} (h : May m) : ∀ l ∈ heads m, (10 : UInt8) ∉ l := by
  obtain ⟨h1, h2, h3, h4, h5, h6, h7, h8⟩ := h
  intro l hl
  simp only [heads, List.mem_cons, List.mem_map] at hl
  rcases hl with rfl | rfl | rfl | rfl | ⟨x, hx, rfl⟩
  · decide
  · rw [itoa_of _ (by omega), List.mem_append]; rintro (h | h); exact absurd h (by decide); exact no10_dec _ h
  · rw [itoa_of _ (by omega), List.mem_append]; rintro (h | h); exact absurd h (by decide); exact no10_dec _ h
  · rw [List.mem_append]; rintro (h | h); exact absurd h (by decide); exact no10_file h5 h
  · rw [List.mem_append]; rintro (h | h); exact absurd h (by decide); exact no10_file (h7 x hx) h
theorem no10_sum (b : Str) : (10 : UInt8) ∉ sumLine b := by
  unfold sumLine
  rw [List.mem_append]; rintro (h | h); exact absurd h (by decide); exact no10_dec _ h
theorem lines_text {m : Man} (h : May m) : lines (text m) = heads m ++ [sumLine (body m), []] := by
  unfold text body
  rw [lines_unl _ _ (no10_heads h), lines_cons _ _ (no10_sum _)]
  rfl

/-! ### The program's reading -/
def cutPre (p s : Str) : Str := trimPrefix s p
theorem cutPre_app (p s : Str) : cutPre p (p ++ s) = s := by
  unfold cutPre trimPrefix
  have : hasPrefix (p ++ s) p = true := by simp [hasPrefix]
  simp [this]
def parseL (l : List Str) : Man := ⟨((l.drop 4).take (l.length - 6)).map (fun x => toB (cutPre wSegm x)), toB (cutPre wLog (l.getD 3 [])), (numP (cutPre wNext (l.getD 1 []))).1, (numP (cutPre wSeq (l.getD 2 []))).1⟩
def decP (s : Str) : Option Man := if (lines s).length < 6 then none else if mayB (parseL (lines s)) = true ∧ text (parseL (lines s)) = s then some (parseL (lines s)) else none
theorem parseL_text {m : Man} (h : May m) : parseL (lines (text m)) = m ∧ ¬ (lines (text m)).length < 6 := by
  rw [lines_text h]
  obtain ⟨h1, h2, h3, h4, h5, h6, h7, h8⟩ := h
  have e1 := numP_dec m.next.toNat (by omega)
  have e2 := numP_dec m.seq.toNat (by omega)
  refine ⟨?_, by simp [heads]⟩
  unfold parseL heads
  simp only [List.cons_append, List.getD_cons_succ, List.getD_cons_zero, cutPre_app, itoa_of _ (show 0 ≤ m.next by omega), itoa_of _ h3, e1, e2, toB_bl, List.drop_succ_cons, List.drop_zero, List.length_cons, List.length_append, List.length_map, List.length_nil]
  rw [show m.segs.length + (0 + 1 + 1) + 1 + 1 + 1 + 1 - 6 = (m.segs.map fun x => wSegm ++ bl x).length by simp, List.take_left]
  rw [List.map_map]
  have : ((fun x => toB (cutPre wSegm x)) ∘ fun x => wSegm ++ bl x) = id := by
    funext x
    simp [cutPre_app, toB_bl]
  rw [this, List.map_id]
  obtain ⟨sg, lg, nx, sq⟩ := m
  simp only [Man.mk.injEq, true_and]
  simp only at h1 h3
  omega
theorem decP_text {m : Man} (h : May m) : decP (text m) = some m := by
  obtain ⟨h1, h2⟩ := parseL_text h
  unfold decP
  rw [if_neg h2, h1, if_pos ⟨by simp [mayB, h], rfl⟩]
theorem decP_some {s : Str} {m : Man} (h : decP s = some m) : May m ∧ text m = s := by
  unfold decP at h
  split at h
  · cases h
  · split at h
    · rename_i hc
      cases h
      exact ⟨by simpa [mayB] using hc.1, hc.2⟩
    · cases h

/-! ### The document's reading -/
/-- Up to the line's end. -/
def upTo10 : Str → Option (Str × Str)
  | [] => none
  | c :: r => if c = 10 then some ([], r) else (upTo10 r).map fun x => (c :: x.1, x.2)
def word (s b : Str) : Str × Str × Bool := if s.take b.length = b then (match upTo10 (s.drop b.length) with | some (x, r) => (x, r, true) | none => ([], s, false)) else ([], s, false)
theorem upTo10_app : ∀ (l r : Str), (10 : UInt8) ∉ l → upTo10 (l ++ 10 :: r) = some (l, r)
  | [], r, _ => by simp [upTo10]
  | c :: t, r, h => by
    simp at h
    rw [List.cons_append, upTo10, if_neg (fun e => h.1 e.symm), upTo10_app t r h.2]
    rfl
theorem upTo10_len : ∀ {s x r : Str}, upTo10 s = some (x, r) → x.length + r.length + 1 = s.length
  | [], _, _, h => by simp [upTo10] at h
  | c :: t, x, r, h => by
    unfold upTo10 at h
    split at h
    · cases h; simp
    · obtain ⟨⟨x', r'⟩, h1, h2⟩ := Option.map_eq_some_iff.1 h
      simp at h2
      obtain ⟨rfl, rfl⟩ := h2
      have := upTo10_len h1
      simp
      omega
theorem word_app (b l r : Str) (h : (10 : UInt8) ∉ l) : word (b ++ l ++ 10 :: r) b = (l, r, true) := by
  unfold word
  rw [List.append_assoc, List.take_left, if_pos rfl, List.drop_left, upTo10_app l r h]
theorem word_len {s b x r : Str} (h : word s b = (x, r, true)) : b.length + x.length + r.length + 1 = s.length := by
  unfold word at h
  split at h
  · rename_i hb
    split at h
    · rename_i hu
      cases h
      have := upTo10_len hu
      have hl := congrArg List.length hb
      simp at this hl
      omega
    · cases h
  · cases h
/-- The words of as many lines as there are. -/
def segsGo : Nat → Str → List Str
  | 0, _ => []
  | n + 1, s => match word s wSegm with
    | (x, r, true) => x :: segsGo n r
    | _ => []
def segsOf (s : Str) : List Str := segsGo (s.length + 1) s
theorem segsGo_fuel : ∀ (n k : Nat) (s : Str), s.length < n → s.length < k → segsGo n s = segsGo k s
  | 0, _, _, h, _ => by omega
  | _ + 1, 0, _, _, h => by omega
  | n + 1, k + 1, s, h1, h2 => by
    unfold segsGo
    split
    · rename_i x r hw
      have := word_len hw
      rw [segsGo_fuel n k r (by omega) (by omega)]
    · rfl
theorem segsOf_step {s x r : Str} (h : word s wSegm = (x, r, true)) : segsOf s = x :: segsOf r := by
  have hl := word_len h
  unfold segsOf
  rw [segsGo, h]
  simp only
  rw [segsGo_fuel s.length (r.length + 1) r (by omega) (by omega)]
theorem segsOf_end {s x r : Str} (h : word s wSegm = (x, r, false)) : segsOf s = [] := by
  unfold segsOf
  rw [segsGo, h]
def p1 (s : Str) := word s wLode
def p2 (s : Str) := word (p1 s).2.1 wNext
def p3 (s : Str) := word (p2 s).2.1 wSeq
def p4 (s : Str) := word (p3 s).2.1 wLog
def flagsR (s : Str) : Bool := (p1 s).2.2 && (p2 s).2.2 && (p3 s).2.2 && (p4 s).2.2
def parseR (s : Str) : Man := ⟨(segsOf (p4 s).2.1).map toB, toB (p4 s).1, numR (p2 s).1, numR (p3 s).1⟩
def decR (s : Str) : Option Man := if flagsR s = true ∧ mayB (parseR s) = true ∧ text (parseR s) = s then some (parseR s) else none
theorem segsOf_text : ∀ (segs : List Str) (d : Str), (∀ x ∈ segs, (10 : UInt8) ∉ x) → d.take 8 ≠ wSegm → segsOf (unl (segs.map fun x => wSegm ++ x) ++ d) = segs
  | [], d, _, hd => by
    have : word d wSegm = ([], d, false) := by unfold word; rw [if_neg (show ¬ List.take (List.length wSegm) d = wSegm from hd)]
    exact segsOf_end this
  | x :: l, d, h, hd => by
    have e : unl ((x :: l).map fun x => wSegm ++ x) ++ d = wSegm ++ x ++ 10 :: (unl (l.map fun x => wSegm ++ x) ++ d) := by simp [unl]
    rw [e, segsOf_step (word_app wSegm x _ (h x (by simp))), segsOf_text l d (fun y hy => h y (by simp [hy])) hd]
theorem parseR_text {m : Man} (h : May m) : parseR (text m) = m ∧ flagsR (text m) = true := by
  obtain ⟨r3, hr3⟩ : ∃ r, r = unl ((m.segs.map bl).map fun x => wSegm ++ x) ++ (sumLine (body m) ++ [10]) := ⟨_, rfl⟩
  obtain ⟨r2, hr2⟩ : ∃ r, r = wLog ++ bl m.log ++ 10 :: r3 := ⟨_, rfl⟩
  obtain ⟨r1, hr1⟩ : ∃ r, r = wSeq ++ itoa m.seq ++ 10 :: r2 := ⟨_, rfl⟩
  obtain ⟨r0, hr0⟩ : ∃ r, r = wNext ++ itoa m.next ++ 10 :: r1 := ⟨_, rfl⟩
  have hb : text m = wLode ++ [] ++ 10 :: r0 := by
    subst hr0 hr1 hr2 hr3
    unfold text
    generalize sumLine (body m) = d
    unfold body heads
    simp [unl, List.flatMap_map]
  obtain ⟨h1, h2, h3, h4, h5, h6, h7, h8⟩ := h
  have q1 : p1 (text m) = ([], r0, true) := by
    unfold p1
    rw [hb]
    exact word_app _ _ _ (by simp)
  have q2 : p2 (text m) = (itoa m.next, r1, true) := by
    unfold p2
    rw [q1]
    simp only
    rw [hr0]
    exact word_app _ _ _ (by rw [itoa_of _ (by omega)]; exact no10_dec _)
  have q3 : p3 (text m) = (itoa m.seq, r2, true) := by
    unfold p3
    rw [q2]
    simp only
    rw [hr1]
    exact word_app _ _ _ (by rw [itoa_of _ (by omega)]; exact no10_dec _)
  have q4 : p4 (text m) = (bl m.log, r3, true) := by
    unfold p4
    rw [q3]
    simp only
    rw [hr2]
    exact word_app _ _ _ (no10_file h5)
  refine ⟨?_, by simp [flagsR, q1, q2, q3, q4]⟩
  unfold parseR
  rw [q4, q3, q2]
  simp only
  rw [hr3, segsOf_text (m.segs.map bl) _ (fun x hx => by obtain ⟨y, hy, rfl⟩ := List.mem_map.1 hx; exact no10_file (h7 y hy)) (by simp [sumLine, wSum, wSegm])]
  have e1 := numR_dec m.next.toNat (by omega)
  have e2 := numR_dec m.seq.toNat (by omega)
  rw [itoa_of _ (show 0 ≤ m.next by omega), itoa_of _ h3, e1, e2, toB_bl, List.map_map]
  have : (toB ∘ bl) = id := by funext x; exact toB_bl x
  rw [this, List.map_id]
  obtain ⟨sg, lg, nx, sq⟩ := m
  simp only [Man.mk.injEq, true_and]
  simp only at h1 h3
  omega
theorem decR_text {m : Man} (h : May m) : decR (text m) = some m := by
  obtain ⟨h1, h2⟩ := parseR_text h
  unfold decR
  rw [h1, h2, if_pos ⟨rfl, by simp [mayB, h], rfl⟩]
theorem decR_some {s : Str} {m : Man} (h : decR s = some m) : May m ∧ text m = s := by
  unfold decR at h
  split at h
  · rename_i hc
    cases h
    exact ⟨by simpa [mayB] using hc.2.1, hc.2.2⟩
  · cases h
/-- The two readings agree. -/
theorem dec_eq (s : Str) : decP s = decR s := by
  cases hp : decP s with
  | some m => obtain ⟨h1, rfl⟩ := decP_some hp; exact (decR_text h1).symm
  | none =>
    cases hr : decR s with
    | none => rfl
    | some m => obtain ⟨h1, rfl⟩ := decR_some hr; rw [decP_text h1] at hp; cases hp

/-! ### One byte more, one byte turned -/
theorem last_text (m : Man) : ∃ l, text m = l ++ [10] ∧ l.getLast? ≠ some 10 := by
  refine ⟨body m ++ sumLine (body m), by simp [text], ?_⟩
  have hd := dec_digit (crc (body m))
  have hn := dec_ne (crc (body m))
  unfold sumLine
  rw [← List.append_assoc, List.getLast?_append]
  cases hl : (decDigits (crc (body m))).getLast? with
  | none => exact absurd (List.getLast?_eq_none_iff.1 hl) hn
  | some c =>
    have := hd c (List.mem_of_getLast? hl)
    simp
    rintro rfl
    have e : (10 : UInt8).toNat = 10 := rfl
    omega
theorem dec_more (m : Man) : decP (text m ++ [10]) = none := by
  cases hp : decP (text m ++ [10]) with
  | none => rfl
  | some k =>
    exfalso
    obtain ⟨_, h2⟩ := decP_some hp
    obtain ⟨l1, e1, n1⟩ := last_text k
    obtain ⟨l2, e2, n2⟩ := last_text m
    rw [e1, e2] at h2
    have := List.append_inj_left' h2 rfl
    apply n1
    rw [this]
    simp
end Go.Proofs.YteeckkkcebljmaaDoor
