/- A region that draws its order, by one invariant: what holds of the operations that have come up. No order is branched over. -/
import Derived.Orders
import Derived.Tactics
namespace Go.Proofs.YteoeahmfpohpeaaDoor

section
variable {P : Program} {ops : Array Oper} {Q : Exit → Act → World → Prop}
/-- One operation, run as a list of one. -/
theorem wpOp_one {i : Nat} {o : Oper} (hi : ops[i]? = some o) {K : Act → World → Prop} {a : Act} {w : World} (h : wpList P ops (Exit.then K Q) [o] a w) (hQ : LetsOut (Exit.then K Q) → LetsOut Q) : wpOp P ops Q i K a w := by
  unfold wpOp
  simp only [hi]
  unfold wpList at h
  split
  · rename_i hw
    rw [if_pos hw] at h
    refine h.imp (fun h => ?_) (fun h => ⟨h.1, hQ h.2⟩)
    refine Oper.wp_mono (Q := Q) (K := wpList P ops (Exit.then K Q) []) (fun a w h => h) ?_
    unfold Oper.wp at *
    generalize (execOp a.eval o).run P w = r at *
    cases r with
    | ok n w' =>
      cases n <;> simp only [Oper.upon] at h ⊢ <;>
        first
          | exact h
          | exact Calls.mono h (fun e w'' he => by cases e <;> exact he)
          | exact Rows.mono h (fun _ _ he => he)
    | halt x w' => cases x <;> simp only [Oper.upon] at h ⊢ <;> exact h
  · rename_i hw
    rw [if_neg hw] at h
    exact h
/-- Where a region's order goes upward: nothing waits for what stands behind it. -/
def upward (ops : List Oper) : Nat → Bool
  | 0 => true
  | n + 1 => upward ops n && ((ops[n]?).map fun o => o.after.all fun e => !Region.binds .any e || decide (e.on < n)).getD true
theorem upward_at {l : List Oper} : ∀ {n : Nat}, upward l n = true → ∀ i, i < n → ∀ o, l[i]? = some o → ∀ e ∈ o.after, Region.binds .any e = true → e.on < i
  | 0, _, i, h, _, _, _, _, _ => absurd h (Nat.not_lt_zero _)
  | n + 1, hu, i, h, o, ho, e, he, hb => by
    simp only [upward, Bool.and_eq_true] at hu
    rcases Nat.lt_or_ge i n with h1 | h1
    · exact upward_at hu.1 i h1 o ho e he hb
    · obtain rfl : i = n := by omega
      have h2 := hu.2
      rw [ho] at h2
      simp only [Option.map_some, Option.getD_some, Array.all_eq_true_iff_forall_mem] at h2
      have h3 := h2 e he
      simpa [hb] using h3
def done (listed : Array Bool) : Nat → Bool := fun j => listed.getD j false
def upd (f : Nat → Bool) (i : Nat) : Nat → Bool := fun j => if j = i then true else f j
theorem done_set {listed : Array Bool} {i : Nat} (h : i < listed.size) : done (listed.setIfInBounds i true) = upd (done listed) i := by
  funext j
  unfold done upd
  by_cases hj : j = i
  · subst hj; simp [h]
  · rw [if_neg hj]; simp [Array.getElem?_setIfInBounds_ne (Ne.symm hj)]
theorem all_done {listed : Array Bool} {l : List Oper} (hs : listed.size = l.length) (hu : upward l l.length = true) (hr : Region.ready .any l.toArray listed = []) : ∀ i, i < l.length → done listed i = true := by
  intro i
  induction i using Nat.strongRecOn with
  | _ i ih =>
    intro hi
    cases hd : done listed i with
    | true => rfl
    | false =>
      exfalso
      have hm : i ∈ Region.ready .any l.toArray listed := by
        refine mem_ready.2 ⟨?_, l[i], by simp [hi], fun e he hb => ?_⟩
        · unfold done at hd; simp [hs, hi] at hd ⊢; exact hd
        · exact ih e.on (upward_at hu i hi _ (by simp [hi]) e he hb) (by have := upward_at hu i hi l[i] (by simp [hi]) e he hb; omega)
      rw [hr] at hm
      cases hm
/-- Each operation keeps J. -/
def Steps1 (P : Program) (ops : Array Oper) (Q : Exit → Act → World → Prop) (J : (Nat → Bool) → Act → World → Prop) : List Oper → Nat → Prop
  | [], _ => True
  | o :: r, i => (∀ f a w, J f a w → f i = false → (∀ e ∈ o.after.toList.filter (fun e => Region.binds .any e), f e.on = true) → wpList P ops (Exit.then (J (upd f i)) Q) [o] a w) ∧ Steps1 P ops Q J r (i + 1)
theorem Steps1.at {J : (Nat → Bool) → Act → World → Prop} : ∀ {l : List Oper} {k : Nat}, Steps1 P ops Q J l k → ∀ i o, l[i]? = some o → ∀ f a w, J f a w → f (k + i) = false → (∀ e ∈ o.after, Region.binds .any e = true → f e.on = true) → wpList P ops (Exit.then (J (upd f (k + i))) Q) [o] a w
  | [], _, _, i, o, h => by simp at h
  | x :: r, k, ⟨h1, h2⟩, 0, o, h => by
    simp at h
    subst h
    intro f a w hJ hf he
    exact h1 f a w hJ hf (fun e hm => by
      simp only [List.mem_filter, Array.mem_toList_iff] at hm
      exact he e hm.1 hm.2)
  | x :: r, k, ⟨h1, h2⟩, i + 1, o, h => by
    have := Steps1.at h2 i o (by simpa using h)
    rw [show k + 1 + i = k + (i + 1) by omega] at this
    exact this
theorem wpAny_inv {l : List Oper} (J : (Nat → Bool) → Act → World → Prop) (hu : upward l l.length = true) (hs : Steps1 P l.toArray Q J l 0)
    (hd : ∀ f a w, J f a w → (∀ i, i < l.length → f i = true) → Q .normal a w) :
    ∀ (fuel : Nat) (listed : Array Bool) (a : Act) (w : World), listed.size = l.length → listed.toList.count false ≤ fuel → J (done listed) a w → wpAny P .any l.toArray Q fuel listed a w := by
  intro fuel
  induction fuel with
  | zero =>
    intro listed a w hsz hc hJ
    have hall : ∀ i, i < l.length → listed.getD i true = true := fun i hi => by
      cases hb : listed.getD i true with
      | true => rfl
      | false =>
        have hm : false ∈ listed.toList := by
          simp [hsz, hi] at hb
          rw [← hb]
          exact Array.mem_toList_iff.2 (Array.getElem_mem _)
        have := List.count_pos_iff.2 hm
        omega
    have hr : Region.ready .any l.toArray listed = [] := by
      refine List.eq_nil_iff_forall_not_mem.2 fun i hi => ?_
      obtain ⟨h0, o, ho, _⟩ := mem_ready.1 hi
      have hlt : i < l.length := by
        have := (Array.getElem?_eq_some_iff.1 ho).1
        simpa using this
      rw [hall i hlt] at h0
      cases h0
    exact ⟨hr, hd _ a w hJ (all_done hsz hu hr)⟩
  | succ fuel ih =>
    intro listed a w hsz hc hJ
    refine ⟨fun hr => hd _ a w hJ (all_done hsz hu hr), fun i hi => ?_⟩
    obtain ⟨h0, o, ho, hall⟩ := mem_ready.1 hi
    have hlt : i < l.length := by
      have := (Array.getElem?_eq_some_iff.1 ho).1
      simpa using this
    have hfi : done listed i = false := by unfold done; simp [hsz, hlt] at h0 ⊢; exact h0
    have hstep := hs.at i o (by simpa using ho) (done listed) a w hJ (by rw [Nat.zero_add]; exact hfi) (fun e he hb => hall e he hb)
    rw [Nat.zero_add] at hstep
    refine wpOp_mono (fun a' w' h => ih _ a' w' (by simpa using hsz) ?_ h) (wpOp_one ho (K := J (done (listed.setIfInBounds i true))) (by rw [done_set (by omega)]; exact hstep) (fun h => ?_))
    · have hget : listed.toList[i]? = some false := by
        have : listed[i]? = some false := by simp [hsz, hlt] at h0 ⊢; exact h0
        simpa using this
      have : (listed.setIfInBounds i true).toList.count false + 1 = listed.toList.count false := by
        have hlen : i < listed.toList.length := by rw [Array.length_toList]; omega
        rw [Array.toList_setIfInBounds, List.count_set (h := hlen)]
        have hg : listed.toList[i] = false := by have := List.getElem?_eq_getElem hlen; rw [this] at hget; exact Option.some.inj hget
        have hp : 0 < listed.toList.count false := List.count_pos_iff.2 (hg ▸ List.getElem_mem hlen)
        rw [hg]
        simp only [beq_self_eq_true, if_true]
        rw [if_neg (by decide)]
        omega
      omega
    · obtain ⟨a, w, h⟩ := h; exact ⟨a, w, h⟩
end
/-- A region that draws its order: J holds at its start, each operation keeps it, and where all have come up the rest follows. -/
theorem wp_region_inv {P : Program} {Q : Exit → Act → World → Prop} {id : Nat} {a : Act} {w : World} {l : List Oper} (J : (Nat → Bool) → Act → World → Prop) (hm : P.follows .mixedOrders = true) (hu : upward l l.length = true)
    (h0 : J (fun _ => false) a w.drew) (hs : Steps1 P l.toArray Q J l 0) (hd : ∀ f a w, J f a w → (∀ i, i < l.length → f i = true) → Q .normal a w) : (Code.region id l.toArray true).wp P Q a w := by
  refine wp_region_any hm (wpAny_inv J hu hs hd _ _ a _ (by simp) (Nat.le_trans List.count_le_length (by simp)) ?_)
  have : done (Array.replicate l.toArray.size false) = fun _ => false := by
    funext j
    unfold done
    simp [Array.getElem?_replicate]
    split <;> rfl
  rw [this]
  exact h0
end Go.Proofs.YteoeahmfpohpeaaDoor
