/- Walks: the statement's function FilterRules. -/
import Derived.Test.YteoeahmfpohpeaaDoorWalkW
import Derived.Test.YteoeahmfpohpeaaDoorRegI
import Derived.Deep.Cut
namespace Go.Proofs.YteoeahmfpohpeaaDoor
open Go.RowKit Go.Shelf
set_option maxRecDepth 100000
set_option linter.unusedVariables false
set_option linter.unusedSimpArgs false

theorem keep24 {W : World} {b : Nat} {x0 x1 x2 x3 x4 x5 x6 x7 x8 x9 x10 x11 x12 x13 x14 x15 x16 x17 x18 x19 x20 x21 x22 x23 : Value} (h : Blk W b [x0, x1, x2, x3, x4, x5, x6, x7, x8, x9, x10, x11, x12, x13, x14, x15, x16, x17, x18, x19, x20, x21, x22, x23]) : W.cell? ⟨b, 0, none⟩ = some x0 ∧ W.cell? ⟨b, 1, none⟩ = some x1 ∧ W.cell? ⟨b, 2, none⟩ = some x2 ∧ W.cell? ⟨b, 3, none⟩ = some x3 ∧ W.cell? ⟨b, 4, none⟩ = some x4 ∧ W.cell? ⟨b, 5, none⟩ = some x5 ∧ W.cell? ⟨b, 6, none⟩ = some x6 ∧ W.cell? ⟨b, 7, none⟩ = some x7 ∧ W.cell? ⟨b, 8, none⟩ = some x8 ∧ W.cell? ⟨b, 9, none⟩ = some x9 ∧ W.cell? ⟨b, 10, none⟩ = some x10 ∧ W.cell? ⟨b, 11, none⟩ = some x11 ∧ W.cell? ⟨b, 12, none⟩ = some x12 ∧ W.cell? ⟨b, 13, none⟩ = some x13 ∧ W.cell? ⟨b, 14, none⟩ = some x14 ∧ W.cell? ⟨b, 15, none⟩ = some x15 ∧ W.cell? ⟨b, 16, none⟩ = some x16 ∧ W.cell? ⟨b, 17, none⟩ = some x17 ∧ W.cell? ⟨b, 18, none⟩ = some x18 ∧ W.cell? ⟨b, 19, none⟩ = some x19 ∧ W.cell? ⟨b, 20, none⟩ = some x20 ∧ W.cell? ⟨b, 21, none⟩ = some x21 ∧ W.cell? ⟨b, 22, none⟩ = some x22 ∧ W.cell? ⟨b, 23, none⟩ = some x23 :=
  ⟨h.cell 0 rfl, h.cell 1 rfl, h.cell 2 rfl, h.cell 3 rfl, h.cell 4 rfl, h.cell 5 rfl, h.cell 6 rfl, h.cell 7 rfl, h.cell 8 rfl, h.cell 9 rfl, h.cell 10 rfl, h.cell 11 rfl, h.cell 12 rfl, h.cell 13 rfl, h.cell 14 rfl, h.cell 15 rfl, h.cell 16 rfl, h.cell 17 rfl, h.cell 18 rfl, h.cell 19 rfl, h.cell 20 rfl, h.cell 21 rfl, h.cell 22 rfl, h.cell 23 rfl⟩
theorem RC.len {H : PH} {n : Nat} {c : Cond} {cs : List Value} (h : RC H n c cs) : cs.length = 8 := by
  obtain ⟨k, nm, v, lo, hi, A, m, c, rfl⟩ := h.form
  rfl
theorem setCells_below {B : Nat} {w W : World} (h : Below B w W) {x : Nat} (hx : B ≤ x) {v0 v1 v2 v3 v4 v5 v6 v7 : Value} : Below B w ((((((((W.setCell ⟨x, 0, none⟩ v0).setCell ⟨x, 1, none⟩ v1).setCell ⟨x, 2, none⟩ v2).setCell ⟨x, 3, none⟩ v3).setCell ⟨x, 4, none⟩ v4).setCell ⟨x, 5, none⟩ v5).setCell ⟨x, 6, none⟩ v6).setCell ⟨x, 7, none⟩ v7) :=
  (((((((h.setCell hx _).setCell hx _).setCell hx _).setCell hx _).setCell hx _).setCell hx _).setCell hx _).setCell hx _
theorem rc3 {W : World} {n g : Nat} {a b c : Cond} {ca cb cc : List Value} (k : Int) (ha : RC (hp W) n a ca) (hb : RC (hp W) n b cb) (hc : RC (hp W) n c cc) (hg : Blk W g (ca ++ cb ++ cc)) :
    RC (hp W) (n + 1) (.mk k ⟨#[]⟩ Val.zero 0 0 [a, b, c]) (cCells k ⟨#[]⟩ Val.zero 0 0 (.slice (some ⟨g, 0, none⟩) 3 3)) := by
  obtain ⟨t, hg⟩ := hg
  refine ⟨_, rfl, _, _, rfl, by simp, Sl.flat (css := [ca, cb, cc]) (.cons ⟨ha, ha.len⟩ (.cons ⟨hb, hb.len⟩ (.cons ⟨hc, hc.len⟩ .nil))) (by simp) (t := t) (fr := (0, 0)) ?_⟩
  show W.heap[g]? = _
  rw [hg]
  simp
theorem rc4 {W : World} {n g : Nat} {a b c d : Cond} {ca cb cc cd : List Value} (k : Int) (ha : RC (hp W) n a ca) (hb : RC (hp W) n b cb) (hc : RC (hp W) n c cc) (hd : RC (hp W) n d cd) (hg : Blk W g (ca ++ cb ++ cc ++ cd)) :
    RC (hp W) (n + 1) (.mk k ⟨#[]⟩ Val.zero 0 0 [a, b, c, d]) (cCells k ⟨#[]⟩ Val.zero 0 0 (.slice (some ⟨g, 0, none⟩) 4 4)) := by
  obtain ⟨t, hg⟩ := hg
  refine ⟨_, rfl, _, _, rfl, by simp, Sl.flat (css := [ca, cb, cc, cd]) (.cons ⟨ha, ha.len⟩ (.cons ⟨hb, hb.len⟩ (.cons ⟨hc, hc.len⟩ (.cons ⟨hd, hd.len⟩ .nil)))) (by simp) (t := t) (fr := (0, 0)) ?_⟩
  show W.heap[g]? = _
  rw [hg]
  simp
theorem blkTop {W : World} {b : Nat} {cs : List Value} {t : TypeId} (h : b = W.heap.size) : Blk (W.alloc (.cells cs.toArray t)) b cs := h ▸ Blk.new W cs t
structure R5 (W1 : World) (CA CB CC : List Value) (f : Nat → Bool) (u34 u35 u36 u37 u38 u39 u40 u41 u42 u43 u11 u12 : Value) (g3 g8 x10 x11 : Nat) (W : World) : Prop where
  below : Below W1.heap.size W1 W
  l0 : f 0 = true → u34 = .agg CA.toArray
  l1 : f 1 = true → u35 = .agg CB.toArray
  l2 : f 2 = true → u36 = .agg CC.toArray
  l5 : f 5 = true → u39 = .agg CA.toArray
  l6 : f 6 = true → u40 = .agg CB.toArray
  l7 : f 7 = true → u41 = .agg CC.toArray
  s3 : f 3 = true → u37 = .slice (some ⟨g3, 0, none⟩) 3 3 ∧ Blk W g3 (CA ++ CB ++ CC)
  s8 : f 8 = true → u42 = .slice (some ⟨g8, 0, none⟩) 3 3 ∧ Blk W g8 (CA ++ CB ++ CC)
  c4 : f 4 = true → f 3 = true ∧ u38 = .agg (cCells 7 ⟨#[]⟩ Val.zero 0 0 u37).toArray
  c9 : f 9 = true → f 8 = true ∧ u43 = .agg (cCells 8 ⟨#[]⟩ Val.zero 0 0 u42).toArray
  a10 : f 10 = true → u11 = .pointer (some ⟨x10, 0, none⟩) ∧ W1.heap.size ≤ x10 ∧ ∃ k nm v lo hi A m c, Blk W x10 (cCells k nm v lo hi (.slice A m c)) ∧ (f 12 = true → f 3 = true ∧ cCells k nm v lo hi (.slice A m c) = cCells 7 ⟨#[]⟩ Val.zero 0 0 u37)
  a11 : f 11 = true → u12 = .pointer (some ⟨x11, 0, none⟩) ∧ W1.heap.size ≤ x11 ∧ ∃ k nm v lo hi A m c, Blk W x11 (cCells k nm v lo hi (.slice A m c)) ∧ (f 13 = true → f 8 = true ∧ cCells k nm v lo hi (.slice A m c) = cCells 8 ⟨#[]⟩ Val.zero 0 0 u42)
  d3_10 : f 3 = true → f 10 = true → g3 ≠ x10
  d3_11 : f 3 = true → f 11 = true → g3 ≠ x11
  d8_10 : f 8 = true → f 10 = true → g8 ≠ x10
  d8_11 : f 8 = true → f 11 = true → g8 ≠ x11
  d10_11 : f 10 = true → f 11 = true → x10 ≠ x11
  e12 : f 12 = true → f 10 = true
  e13 : f 13 = true → f 11 = true
theorem R5.grow {W1 : World} {CA CB CC : List Value} {f : Nat → Bool} {u34 u35 u36 u37 u38 u39 u40 u41 u42 u43 u11 u12 : Value} {g3 g8 x10 x11 : Nat} {W W' : World} (h : R5 W1 CA CB CC f u34 u35 u36 u37 u38 u39 u40 u41 u42 u43 u11 u12 g3 g8 x10 x11 W) (hb : Below W.heap.size W W') : R5 W1 CA CB CC f u34 u35 u36 u37 u38 u39 u40 u41 u42 u43 u11 u12 g3 g8 x10 x11 W' :=
  { h with
    below := below_then h.below h.below.size hb
    s3 := fun e => ⟨(h.s3 e).1, (h.s3 e).2.below hb⟩
    s8 := fun e => ⟨(h.s8 e).1, (h.s8 e).2.below hb⟩
    a10 := fun e => by obtain ⟨e1, e2, k, nm, v, lo, hi, A, m, c, e3, e4⟩ := h.a10 e; exact ⟨e1, e2, k, nm, v, lo, hi, A, m, c, e3.below hb, e4⟩
    a11 := fun e => by obtain ⟨e1, e2, k, nm, v, lo, hi, A, m, c, e3, e4⟩ := h.a11 e; exact ⟨e1, e2, k, nm, v, lo, hi, A, m, c, e3.below hb, e4⟩ }
def J5 (fr : Value → Value → Value → Value → Value → Value → Value → Value → Value → Value → Value → Value → Array Value) (W1 : World) (CA CB CC : List Value) (f : Nat → Bool) (a : Act) (W : World) : Prop :=
  ∃ u34 u35 u36 u37 u38 u39 u40 u41 u42 u43 u11 u12 g3 g8 x10 x11, a = { tmps := fr u34 u35 u36 u37 u38 u39 u40 u41 u42 u43 u11 u12, defers := [] } ∧ R5 W1 CA CB CC f u34 u35 u36 u37 u38 u39 u40 u41 u42 u43 u11 u12 g3 g8 x10 x11 W
def Cut6 (fr : Value → Value → Value → Value → Value → Value → Value → Value → Value → Value → Value → Value → Value → Value → Value → Value → Value → Value → Value → Value → Value → Value → Value → Array Value) (Pw : World → Prop) (e : Exit) (a : Act) (W : World) : Prop :=
  e = .normal ∧ ∃ v0 v1 v2 v3 v4 v5 v6 v7 v8 v9 v10 v11 v12 v13 v14 v15 v16 v17 v18 v19 v20 v21 v22, a = { tmps := fr v0 v1 v2 v3 v4 v5 v6 v7 v8 v9 v10 v11 v12 v13 v14 v15 v16 v17 v18 v19 v20 v21 v22, defers := [] } ∧ Pw W
structure B6 (W : World) (b5 b6 b7 b1 x10 x11 : Nat) (CA CB CC PT CX CY : List Value) : Prop where
  a : Blk W b5 CA
  b : Blk W b6 CB
  c : Blk W b7 CC
  pt : Blk W b1 PT
  x : Blk W x10 CX
  y : Blk W x11 CY
theorem B6.below {W W' : World} {b5 b6 b7 b1 x10 x11 : Nat} {CA CB CC PT CX CY : List Value} (h : B6 W b5 b6 b7 b1 x10 x11 CA CB CC PT CX CY) (hb : Below W.heap.size W W') : B6 W' b5 b6 b7 b1 x10 x11 CA CB CC PT CX CY :=
  ⟨h.a.below hb, h.b.below hb, h.c.below hb, h.pt.below hb, h.x.below hb, h.y.below hb⟩
theorem B6.alloc {W : World} {b5 b6 b7 b1 x10 x11 : Nat} {CA CB CC PT CX CY : List Value} (h : B6 W b5 b6 b7 b1 x10 x11 CA CB CC PT CX CY) (o : Obj) : B6 (W.alloc o) b5 b6 b7 b1 x10 x11 CA CB CC PT CX CY :=
  h.below (below_allocS (Below.refl _ _) o)
theorem B6.drew {W : World} {b5 b6 b7 b1 x10 x11 : Nat} {CA CB CC PT CX CY : List Value} (h : B6 W b5 b6 b7 b1 x10 x11 CA CB CC PT CX CY) : B6 W.drew b5 b6 b7 b1 x10 x11 CA CB CC PT CX CY :=
  h.below (Below.drew (Below.refl _ _))
theorem box3 {W : World} {b : Nat} {a0 a1 a2 : Value} (h : Blk W b [a0, a1, a2]) : W.cell? ⟨b, 0, none⟩ = some a0 ∧ W.cell? ⟨b, 1, none⟩ = some a1 ∧ W.cell? ⟨b, 2, none⟩ = some a2 := ⟨h.cell 0 rfl, h.cell 1 rfl, h.cell 2 rfl⟩
theorem passes7 (fl : List Fld) (a b c : Cond) : passes fl (.mk 7 ⟨#[]⟩ Val.zero 0 0 [a, b, c]) = (passes fl a && passes fl b && passes fl c) := by simp [passes, passAll, Bool.and_assoc]
theorem passes8 (fl : List Fld) (a b c : Cond) : passes fl (.mk 8 ⟨#[]⟩ Val.zero 0 0 [a, b, c]) = (passes fl a || passes fl b || passes fl c) := by simp [passes, passAny, Bool.or_assoc]
theorem passes74 (fl : List Fld) (a b c d : Cond) : passes fl (.mk 7 ⟨#[]⟩ Val.zero 0 0 [a, b, c, d]) = (passes fl a && (passes fl b && (passes fl c && passes fl d))) := by simp [passes, passAll]
theorem passes84 (fl : List Fld) (a b c d : Cond) : passes fl (.mk 8 ⟨#[]⟩ Val.zero 0 0 [a, b, c, d]) = (passes fl a || (passes fl b || (passes fl c || passes fl d))) := by simp [passes, passAny]
theorem B6.cells {W : World} {n5 n6 n7 n1 nx ny : Nat} {a0 a1 a2 a3 a4 a5 a6 a7 b0 b1 b2 b3 b4 b5 b6 b7 c0 c1 c2 c3 c4 c5 c6 c7 p0 p1 p2 x0 x1 x2 x3 x4 x5 x6 x7 y0 y1 y2 y3 y4 y5 y6 y7 : Value} (h : B6 W n5 n6 n7 n1 nx ny [a0, a1, a2, a3, a4, a5, a6, a7] [b0, b1, b2, b3, b4, b5, b6, b7] [c0, c1, c2, c3, c4, c5, c6, c7] [p0, p1, p2] [x0, x1, x2, x3, x4, x5, x6, x7] [y0, y1, y2, y3, y4, y5, y6, y7]) : W.cell? ⟨n5, 0, none⟩ = some a0 ∧ W.cell? ⟨n5, 1, none⟩ = some a1 ∧ W.cell? ⟨n5, 2, none⟩ = some a2 ∧ W.cell? ⟨n5, 3, none⟩ = some a3 ∧ W.cell? ⟨n5, 4, none⟩ = some a4 ∧ W.cell? ⟨n5, 5, none⟩ = some a5 ∧ W.cell? ⟨n5, 6, none⟩ = some a6 ∧ W.cell? ⟨n5, 7, none⟩ = some a7 ∧ W.cell? ⟨n6, 0, none⟩ = some b0 ∧ W.cell? ⟨n6, 1, none⟩ = some b1 ∧ W.cell? ⟨n6, 2, none⟩ = some b2 ∧ W.cell? ⟨n6, 3, none⟩ = some b3 ∧ W.cell? ⟨n6, 4, none⟩ = some b4 ∧ W.cell? ⟨n6, 5, none⟩ = some b5 ∧ W.cell? ⟨n6, 6, none⟩ = some b6 ∧ W.cell? ⟨n6, 7, none⟩ = some b7 ∧ W.cell? ⟨n7, 0, none⟩ = some c0 ∧ W.cell? ⟨n7, 1, none⟩ = some c1 ∧ W.cell? ⟨n7, 2, none⟩ = some c2 ∧ W.cell? ⟨n7, 3, none⟩ = some c3 ∧ W.cell? ⟨n7, 4, none⟩ = some c4 ∧ W.cell? ⟨n7, 5, none⟩ = some c5 ∧ W.cell? ⟨n7, 6, none⟩ = some c6 ∧ W.cell? ⟨n7, 7, none⟩ = some c7 ∧ W.cell? ⟨n1, 0, none⟩ = some p0 ∧ W.cell? ⟨n1, 1, none⟩ = some p1 ∧ W.cell? ⟨n1, 2, none⟩ = some p2 ∧ W.cell? ⟨nx, 0, none⟩ = some x0 ∧ W.cell? ⟨nx, 1, none⟩ = some x1 ∧ W.cell? ⟨nx, 2, none⟩ = some x2 ∧ W.cell? ⟨nx, 3, none⟩ = some x3 ∧ W.cell? ⟨nx, 4, none⟩ = some x4 ∧ W.cell? ⟨nx, 5, none⟩ = some x5 ∧ W.cell? ⟨nx, 6, none⟩ = some x6 ∧ W.cell? ⟨nx, 7, none⟩ = some x7 ∧ W.cell? ⟨ny, 0, none⟩ = some y0 ∧ W.cell? ⟨ny, 1, none⟩ = some y1 ∧ W.cell? ⟨ny, 2, none⟩ = some y2 ∧ W.cell? ⟨ny, 3, none⟩ = some y3 ∧ W.cell? ⟨ny, 4, none⟩ = some y4 ∧ W.cell? ⟨ny, 5, none⟩ = some y5 ∧ W.cell? ⟨ny, 6, none⟩ = some y6 ∧ W.cell? ⟨ny, 7, none⟩ = some y7 :=
  ⟨h.a.cell 0 rfl, h.a.cell 1 rfl, h.a.cell 2 rfl, h.a.cell 3 rfl, h.a.cell 4 rfl, h.a.cell 5 rfl, h.a.cell 6 rfl, h.a.cell 7 rfl, h.b.cell 0 rfl, h.b.cell 1 rfl, h.b.cell 2 rfl, h.b.cell 3 rfl, h.b.cell 4 rfl, h.b.cell 5 rfl, h.b.cell 6 rfl, h.b.cell 7 rfl, h.c.cell 0 rfl, h.c.cell 1 rfl, h.c.cell 2 rfl, h.c.cell 3 rfl, h.c.cell 4 rfl, h.c.cell 5 rfl, h.c.cell 6 rfl, h.c.cell 7 rfl, h.pt.cell 0 rfl, h.pt.cell 1 rfl, h.pt.cell 2 rfl, h.x.cell 0 rfl, h.x.cell 1 rfl, h.x.cell 2 rfl, h.x.cell 3 rfl, h.x.cell 4 rfl, h.x.cell 5 rfl, h.x.cell 6 rfl, h.x.cell 7 rfl, h.y.cell 0 rfl, h.y.cell 1 rfl, h.y.cell 2 rfl, h.y.cell 3 rfl, h.y.cell 4 rfl, h.y.cell 5 rfl, h.y.cell 6 rfl, h.y.cell 7 rfl⟩

set_option maxHeartbeats 4000000 in
theorem law_rules (H : PH) (n : Nat) (w : World) (a b c : Cond) (ka kb kc loa lob loc hia hib hic : Int) (ma mb mc : ByteArray) (va vb vc : Val) (La Lb Lc : Option Addr) (na nb nc ca cb cc : Nat) (p : Pt) (V0 F : Value) (hI : In H w)
    (hpt : RPt H p [.int .i64 p.id, V0, F]) (hV : V0.oneCell' = true) (hF : F.oneCell' = true) (ra : RC H n a [.int .i64 ka, .string ma, .int .i64 va.kind, .int .i64 va.n, .string va.text, .int .i64 loa, .int .i64 hia, .slice La na ca]) (rb : RC H n b [.int .i64 kb, .string mb, .int .i64 vb.kind, .int .i64 vb.n, .string vb.text, .int .i64 lob, .int .i64 hib, .slice Lb nb cb]) (rc : RC H n c [.int .i64 kc, .string mc, .int .i64 vc.kind, .int .i64 vc.n, .string vc.text, .int .i64 loc, .int .i64 hic, .slice Lc nc cc]) :
    Calls Tryd.prog 4 #[.agg #[.int .i64 ka, .string ma, .int .i64 va.kind, .int .i64 va.n, .string va.text, .int .i64 loa, .int .i64 hia, .slice La na ca, .int .i64 kb, .string mb, .int .i64 vb.kind, .int .i64 vb.n, .string vb.text, .int .i64 lob, .int .i64 hib, .slice Lb nb cb, .int .i64 kc, .string mc, .int .i64 vc.kind, .int .i64 vc.n, .string vc.text, .int .i64 loc, .int .i64 hic, .slice Lc nc cc], .agg #[.int .i64 p.id, V0, F]] w fun e w' => e = .returned (.bool true) ∧ Below w.heap.size w w' := by
  obtain ⟨x, hx⟩ : ∃ x : Bool, Hid (x = passes p.flds a) := ⟨_, Lib.hid rfl⟩
  obtain ⟨y, hy⟩ : ∃ y : Bool, Hid (y = passes p.flds b) := ⟨_, Lib.hid rfl⟩
  obtain ⟨z, hz⟩ : ∃ z : Bool, Hid (z = passes p.flds c) := ⟨_, Lib.hid rfl⟩
  have kPa : Hid (∀ W, In H W → Calls Tryd.prog 10 #[.agg #[.int .i64 ka, .string ma, .int .i64 va.kind, .int .i64 va.n, .string va.text, .int .i64 loa, .int .i64 hia, .slice La na ca], .agg #[.int .i64 p.id, V0, F]] W fun e w' => e = .returned (.bool x) ∧ Below W.heap.size W w') := Lib.hid (fun W h => hx.out ▸ passes_calls H p _ hpt n a _ W h ra)
  have kPb : Hid (∀ W, In H W → Calls Tryd.prog 10 #[.agg #[.int .i64 kb, .string mb, .int .i64 vb.kind, .int .i64 vb.n, .string vb.text, .int .i64 lob, .int .i64 hib, .slice Lb nb cb], .agg #[.int .i64 p.id, V0, F]] W fun e w' => e = .returned (.bool y) ∧ Below W.heap.size W w') := Lib.hid (fun W h => hy.out ▸ passes_calls H p _ hpt n b _ W h rb)
  have kPc : Hid (∀ W, In H W → Calls Tryd.prog 10 #[.agg #[.int .i64 kc, .string mc, .int .i64 vc.kind, .int .i64 vc.n, .string vc.text, .int .i64 loc, .int .i64 hic, .slice Lc nc cc], .agg #[.int .i64 p.id, V0, F]] W fun e w' => e = .returned (.bool z) ∧ Below W.heap.size W w') := Lib.hid (fun W h => hz.out ▸ passes_calls H p _ hpt n c _ W h rc)
  have kP : Hid (∀ (W V : World) m cnd cs q, Below W.heap.size W V → In H W → RC (hp W) m cnd cs → passes p.flds cnd = q → Calls Tryd.prog 10 #[.agg cs.toArray, .agg #[.int .i64 p.id, V0, F]] V fun e w' => e = .returned (.bool q) ∧ Below V.heap.size V w') := Lib.hid (fun W V m cnd cs q hb hi hc hq => hq ▸ passes_calls (hp W) p _ (RPt.mono hi hpt) m cnd _ V ((In.hp W).below hb) hc)
  have kN : Hid (∀ (W V : World) m cnd cs, Below W.heap.size W V → RC (hp W) m cnd cs → Calls Tryd.prog 11 #[.agg cs.toArray] V fun e w' => (∃ A0 m0 c0, e = .returned (.agg #[.int .i64 6, .string ⟨#[]⟩, .int .i64 0, .int .i64 0, .string ⟨#[]⟩, .int .i64 0, .int .i64 0, .slice A0 m0 c0]) ∧ RC (hp w') (m + 1) (notC cnd) (cCells 6 ⟨#[]⟩ Val.zero 0 0 (.slice A0 m0 c0))) ∧ Below V.heap.size V w') := Lib.hid (fun W V m cnd cs hb hc => not_calls (hp W) m V cnd cs ((In.hp W).below hb) hc)
  have kO : Hid (∀ (V : World) (k : Int) (A : Option Addr) (m cp : Nat), Calls Tryd.prog 12 #[.int .i64 k, .slice A m cp] V fun e w' => e = .returned (.agg #[.int .i64 k, .string ⟨#[]⟩, .int .i64 0, .int .i64 0, .string ⟨#[]⟩, .int .i64 0, .int .i64 0, .slice A m cp]) ∧ Below V.heap.size V w') := Lib.hid (fun V k A m cp => of_calls V k A m cp)
  have kS : Hid (∀ (W V : World) m cnd cs s, Below W.heap.size W V → RC (hp W) m cnd cs → csize cnd = s → Calls Tryd.prog 13 #[.agg cs.toArray] V fun e w' => e = .returned (.int .i64 s) ∧ Below V.heap.size V w') := Lib.hid (fun W V m cnd cs s hb hc hs => hs ▸ size_calls (hp W) m cnd cs V ((In.hp W).below hb) hc)
  go_enter Tryd.func4, Tryd.ntmps4
  go_wp2
  have K2 := (Blk.new w [.int .i64 ka, .string ma, .int .i64 va.kind, .int .i64 va.n, .string va.text, .int .i64 loa, .int .i64 hia, .slice La na ca, .int .i64 kb, .string mb, .int .i64 vb.kind, .int .i64 vb.n, .string vb.text, .int .i64 lob, .int .i64 hib, .slice Lb nb cb, .int .i64 kc, .string mc, .int .i64 vc.kind, .int .i64 vc.n, .string vc.text, .int .i64 loc, .int .i64 hic, .slice Lc nc cc] 33).alloc (.cells #[.int .i64 p.id, V0, F] 37)
  have K3 := Blk.new (w.alloc (.cells #[.int .i64 ka, .string ma, .int .i64 va.kind, .int .i64 va.n, .string va.text, .int .i64 loa, .int .i64 hia, .slice La na ca, .int .i64 kb, .string mb, .int .i64 vb.kind, .int .i64 vb.n, .string vb.text, .int .i64 lob, .int .i64 hib, .slice Lb nb cb, .int .i64 kc, .string mc, .int .i64 vc.kind, .int .i64 vc.n, .string vc.text, .int .i64 loc, .int .i64 hic, .slice Lc nc cc] 33)) [.int .i64 p.id, V0, F] 37
  rw [World.size_alloc] at K3
  have HB0 : Below w.heap.size w ((w.alloc (.cells #[.int .i64 ka, .string ma, .int .i64 va.kind, .int .i64 va.n, .string va.text, .int .i64 loa, .int .i64 hia, .slice La na ca, .int .i64 kb, .string mb, .int .i64 vb.kind, .int .i64 vb.n, .string vb.text, .int .i64 lob, .int .i64 hib, .slice Lb nb cb, .int .i64 kc, .string mc, .int .i64 vc.kind, .int .i64 vc.n, .string vc.text, .int .i64 loc, .int .i64 hic, .slice Lc nc cc] 33)).alloc (.cells #[.int .i64 p.id, V0, F] 37)) := by repeat (first | exact Below.refl _ _ | refine below_allocS ?_ _)
  refine Code.wp_mono (Q := fun e a' W' => e = .normal ∧ ∃ b5 b6 b7, a' = { tmps := #[.agg #[.int .i64 ka, .string ma, .int .i64 va.kind, .int .i64 va.n, .string va.text, .int .i64 loa, .int .i64 hia, .slice La na ca, .int .i64 kb, .string mb, .int .i64 vb.kind, .int .i64 vb.n, .string vb.text, .int .i64 lob, .int .i64 hib, .slice Lb nb cb, .int .i64 kc, .string mc, .int .i64 vc.kind, .int .i64 vc.n, .string vc.text, .int .i64 loc, .int .i64 hic, .slice Lc nc cc], .agg #[.int .i64 p.id, V0, F], .pointer (some ⟨w.heap.size, 0, none⟩), .pointer (some ⟨w.heap.size + 1, 0, none⟩), .bool false, .pointer (some ⟨b5, 0, none⟩), .pointer (some ⟨b6, 0, none⟩), .pointer (some ⟨b7, 0, none⟩), undef, undef, undef, undef, undef, .pointer (some ⟨w.heap.size, 0, none⟩), .agg #[.int .i64 ka, .string ma, .int .i64 va.kind, .int .i64 va.n, .string va.text, .int .i64 loa, .int .i64 hia, .slice La na ca], .pointer (some ⟨w.heap.size, 8, none⟩), .agg #[.int .i64 kb, .string mb, .int .i64 vb.kind, .int .i64 vb.n, .string vb.text, .int .i64 lob, .int .i64 hib, .slice Lb nb cb], .pointer (some ⟨w.heap.size, 16, none⟩), .agg #[.int .i64 kc, .string mc, .int .i64 vc.kind, .int .i64 vc.n, .string vc.text, .int .i64 loc, .int .i64 hic, .slice Lc nc cc], undef, undef, undef, undef, undef, undef, undef, undef, undef, undef, undef, undef, undef, undef, undef, undef, undef, undef, undef, undef, undef, undef, undef, undef, undef, undef, undef, undef, undef, undef, undef, undef, undef, undef, undef, undef, undef, undef, undef, undef, undef, undef, undef, undef, undef, undef, undef, undef, undef, undef, undef, undef, undef, undef, undef, undef, undef, undef, undef, undef, undef, undef, undef, undef, undef, undef, undef, undef, undef, undef, undef, undef, undef, undef, undef, undef, undef, undef, undef, undef, undef, undef, undef, undef, undef, undef, undef, undef, undef, undef, undef, undef, undef, undef, undef, undef, undef, undef, undef, undef, undef, undef, undef, undef, undef, undef, undef, undef, undef, undef, undef, undef, undef, undef, undef, undef, undef, undef, undef, undef, undef, undef, undef, undef], defers := [] } ∧ Below w.heap.size w W' ∧ Blk W' w.heap.size [.int .i64 ka, .string ma, .int .i64 va.kind, .int .i64 va.n, .string va.text, .int .i64 loa, .int .i64 hia, .slice La na ca, .int .i64 kb, .string mb, .int .i64 vb.kind, .int .i64 vb.n, .string vb.text, .int .i64 lob, .int .i64 hib, .slice Lb nb cb, .int .i64 kc, .string mc, .int .i64 vc.kind, .int .i64 vc.n, .string vc.text, .int .i64 loc, .int .i64 hic, .slice Lc nc cc] ∧ Blk W' (w.heap.size + 1) [.int .i64 p.id, V0, F] ∧ Blk W' b5 [.int .i64 ka, .string ma, .int .i64 va.kind, .int .i64 va.n, .string va.text, .int .i64 loa, .int .i64 hia, .slice La na ca] ∧ Blk W' b6 [.int .i64 kb, .string mb, .int .i64 vb.kind, .int .i64 vb.n, .string vb.text, .int .i64 lob, .int .i64 hib, .slice Lb nb cb] ∧ Blk W' b7 [.int .i64 kc, .string mc, .int .i64 vc.kind, .int .i64 vc.n, .string vc.text, .int .i64 loc, .int .i64 hic, .slice Lc nc cc]) ?imp1 ?reg1
  case reg1 =>
    go_region_held3 (fun w' => w'.cell? ⟨w.heap.size, 0, none⟩ = some (.int .i64 ka) ∧ w'.cell? ⟨w.heap.size, 1, none⟩ = some (.string ma) ∧ w'.cell? ⟨w.heap.size, 2, none⟩ = some (.int .i64 va.kind) ∧ w'.cell? ⟨w.heap.size, 3, none⟩ = some (.int .i64 va.n) ∧ w'.cell? ⟨w.heap.size, 4, none⟩ = some (.string va.text) ∧ w'.cell? ⟨w.heap.size, 5, none⟩ = some (.int .i64 loa) ∧ w'.cell? ⟨w.heap.size, 6, none⟩ = some (.int .i64 hia) ∧ w'.cell? ⟨w.heap.size, 7, none⟩ = some (.slice La na ca) ∧ w'.cell? ⟨w.heap.size, 8, none⟩ = some (.int .i64 kb) ∧ w'.cell? ⟨w.heap.size, 9, none⟩ = some (.string mb) ∧ w'.cell? ⟨w.heap.size, 10, none⟩ = some (.int .i64 vb.kind) ∧ w'.cell? ⟨w.heap.size, 11, none⟩ = some (.int .i64 vb.n) ∧ w'.cell? ⟨w.heap.size, 12, none⟩ = some (.string vb.text) ∧ w'.cell? ⟨w.heap.size, 13, none⟩ = some (.int .i64 lob) ∧ w'.cell? ⟨w.heap.size, 14, none⟩ = some (.int .i64 hib) ∧ w'.cell? ⟨w.heap.size, 15, none⟩ = some (.slice Lb nb cb) ∧ w'.cell? ⟨w.heap.size, 16, none⟩ = some (.int .i64 kc) ∧ w'.cell? ⟨w.heap.size, 17, none⟩ = some (.string mc) ∧ w'.cell? ⟨w.heap.size, 18, none⟩ = some (.int .i64 vc.kind) ∧ w'.cell? ⟨w.heap.size, 19, none⟩ = some (.int .i64 vc.n) ∧ w'.cell? ⟨w.heap.size, 20, none⟩ = some (.string vc.text) ∧ w'.cell? ⟨w.heap.size, 21, none⟩ = some (.int .i64 loc) ∧ w'.cell? ⟨w.heap.size, 22, none⟩ = some (.int .i64 hic) ∧ w'.cell? ⟨w.heap.size, 23, none⟩ = some (.slice Lc nc cc)) (first | exact keep24 (by repeat (first | exact K2 | refine Blk.drew ?_ | refine Blk.alloc ?_ _ | refine Blk.far ?_ (by simp) _)) | go_keep) (fail)
    all_goals refine ⟨rfl, _, _, _, rfl, ?_, ?_, ?_, ?_, ?_, ?_⟩
    all_goals first
      | ((repeat (first | refine Below.drew ?_ | refine below_allocS ?_ _ | exact Below.refl _ _)); done)
      | ((repeat (first | refine Blk.drew ?_ | exact blkTop (by simp) | refine Blk.alloc ?_ _)); done)
  case imp1 =>
    rintro e a' W1 ⟨rfl, b5, b6, b7, rfl, HB1, K2, K3, KA, KB, KC⟩
    dsimp only
    clear K2
    go_wp2
    go_region_held3 (fun w' => w'.cell? ⟨b5, 0, none⟩ = some (.int .i64 ka) ∧ w'.cell? ⟨b5, 1, none⟩ = some (.string ma) ∧ w'.cell? ⟨b5, 2, none⟩ = some (.int .i64 va.kind) ∧ w'.cell? ⟨b5, 3, none⟩ = some (.int .i64 va.n) ∧ w'.cell? ⟨b5, 4, none⟩ = some (.string va.text) ∧ w'.cell? ⟨b5, 5, none⟩ = some (.int .i64 loa) ∧ w'.cell? ⟨b5, 6, none⟩ = some (.int .i64 hia) ∧ w'.cell? ⟨b5, 7, none⟩ = some (.slice La na ca) ∧ w'.cell? ⟨b6, 0, none⟩ = some (.int .i64 kb) ∧ w'.cell? ⟨b6, 1, none⟩ = some (.string mb) ∧ w'.cell? ⟨b6, 2, none⟩ = some (.int .i64 vb.kind) ∧ w'.cell? ⟨b6, 3, none⟩ = some (.int .i64 vb.n) ∧ w'.cell? ⟨b6, 4, none⟩ = some (.string vb.text) ∧ w'.cell? ⟨b6, 5, none⟩ = some (.int .i64 lob) ∧ w'.cell? ⟨b6, 6, none⟩ = some (.int .i64 hib) ∧ w'.cell? ⟨b6, 7, none⟩ = some (.slice Lb nb cb) ∧ w'.cell? ⟨b7, 0, none⟩ = some (.int .i64 kc) ∧ w'.cell? ⟨b7, 1, none⟩ = some (.string mc) ∧ w'.cell? ⟨b7, 2, none⟩ = some (.int .i64 vc.kind) ∧ w'.cell? ⟨b7, 3, none⟩ = some (.int .i64 vc.n) ∧ w'.cell? ⟨b7, 4, none⟩ = some (.string vc.text) ∧ w'.cell? ⟨b7, 5, none⟩ = some (.int .i64 loc) ∧ w'.cell? ⟨b7, 6, none⟩ = some (.int .i64 hic) ∧ w'.cell? ⟨b7, 7, none⟩ = some (.slice Lc nc cc) ∧ w'.cell? ⟨(w.heap.size + 1), 0, none⟩ = some (.int .i64 p.id) ∧ w'.cell? ⟨(w.heap.size + 1), 1, none⟩ = some (V0) ∧ w'.cell? ⟨(w.heap.size + 1), 2, none⟩ = some (F)) (first | exact ⟨KA4.cell 0 rfl, KA4.cell 1 rfl, KA4.cell 2 rfl, KA4.cell 3 rfl, KA4.cell 4 rfl, KA4.cell 5 rfl, KA4.cell 6 rfl, KA4.cell 7 rfl, KB4.cell 0 rfl, KB4.cell 1 rfl, KB4.cell 2 rfl, KB4.cell 3 rfl, KB4.cell 4 rfl, KB4.cell 5 rfl, KB4.cell 6 rfl, KB4.cell 7 rfl, KC4.cell 0 rfl, KC4.cell 1 rfl, KC4.cell 2 rfl, KC4.cell 3 rfl, KC4.cell 4 rfl, KC4.cell 5 rfl, KC4.cell 6 rfl, KC4.cell 7 rfl, K34.cell 0 rfl, K34.cell 1 rfl, K34.cell 2 rfl⟩ | exact ⟨KA3.cell 0 rfl, KA3.cell 1 rfl, KA3.cell 2 rfl, KA3.cell 3 rfl, KA3.cell 4 rfl, KA3.cell 5 rfl, KA3.cell 6 rfl, KA3.cell 7 rfl, KB3.cell 0 rfl, KB3.cell 1 rfl, KB3.cell 2 rfl, KB3.cell 3 rfl, KB3.cell 4 rfl, KB3.cell 5 rfl, KB3.cell 6 rfl, KB3.cell 7 rfl, KC3.cell 0 rfl, KC3.cell 1 rfl, KC3.cell 2 rfl, KC3.cell 3 rfl, KC3.cell 4 rfl, KC3.cell 5 rfl, KC3.cell 6 rfl, KC3.cell 7 rfl, K33.cell 0 rfl, K33.cell 1 rfl, K33.cell 2 rfl⟩ | exact ⟨KA2.cell 0 rfl, KA2.cell 1 rfl, KA2.cell 2 rfl, KA2.cell 3 rfl, KA2.cell 4 rfl, KA2.cell 5 rfl, KA2.cell 6 rfl, KA2.cell 7 rfl, KB2.cell 0 rfl, KB2.cell 1 rfl, KB2.cell 2 rfl, KB2.cell 3 rfl, KB2.cell 4 rfl, KB2.cell 5 rfl, KB2.cell 6 rfl, KB2.cell 7 rfl, KC2.cell 0 rfl, KC2.cell 1 rfl, KC2.cell 2 rfl, KC2.cell 3 rfl, KC2.cell 4 rfl, KC2.cell 5 rfl, KC2.cell 6 rfl, KC2.cell 7 rfl, K32.cell 0 rfl, K32.cell 1 rfl, K32.cell 2 rfl⟩ | exact ⟨KA.cell 0 rfl, KA.cell 1 rfl, KA.cell 2 rfl, KA.cell 3 rfl, KA.cell 4 rfl, KA.cell 5 rfl, KA.cell 6 rfl, KA.cell 7 rfl, KB.cell 0 rfl, KB.cell 1 rfl, KB.cell 2 rfl, KB.cell 3 rfl, KB.cell 4 rfl, KB.cell 5 rfl, KB.cell 6 rfl, KB.cell 7 rfl, KC.cell 0 rfl, KC.cell 1 rfl, KC.cell 2 rfl, KC.cell 3 rfl, KC.cell 4 rfl, KC.cell 5 rfl, KC.cell 6 rfl, KC.cell 7 rfl, K3.cell 0 rfl, K3.cell 1 rfl, K3.cell 2 rfl⟩ | go_keep)
      (first
        | (go_at_call_has 10 (Value.int .i64 loa); go_must (refine (kPa.out _ (hI.below (by repeat (first | exact HB1 | refine Below.drew ?_)))).mono ?_; rintro e w2 ⟨rfl, hb0⟩; have hb : Below W1.heap.size W1 w2 := below_step hb0 (Below.drew (Below.refl _ _)); have HB2 : Below w.heap.size w w2 := below_step hb HB1; have KA2 := KA.below hb; have KB2 := KB.below hb; have KC2 := KC.below hb; have K32 := K3.below hb; clear hb hb0))
        | (go_at_call_has 10 (Value.int .i64 lob); go_must (refine (kPb.out _ (hI.below HB2)).mono ?_; rintro e w3 ⟨rfl, hb⟩; have HB3 : Below w.heap.size w w3 := below_step hb HB2; have KA3 := KA2.below hb; have KB3 := KB2.below hb; have KC3 := KC2.below hb; have K33 := K32.below hb; clear hb))
        | (go_at_call_has 10 (Value.int .i64 loc); go_must (refine (kPc.out _ (hI.below HB3)).mono ?_; rintro e w4 ⟨rfl, hb⟩; have HB4 : Below w.heap.size w w4 := below_step hb HB3; have KA4 := KA3.below hb; have KB4 := KB3.below hb; have KC4 := KC3.below hb; have K34 := K33.below hb; clear hb)))
    go_wp2
    have ra4 := Lib.hid (ra.mono (hI.below HB4))
    have rb4 := Lib.hid (rb.mono (hI.below HB4))
    have rc4 := Lib.hid (rc.mono (hI.below HB4))
    have hI4 := Lib.hid (hI.below HB4)
    clear HB2 HB3 KA2 KB2 KC2 K32 KA3 KB3 KC3 K33 HB1 KA KB KC K3
    go_region_held3 (fun w' => w'.cell? ⟨b5, 0, none⟩ = some (.int .i64 ka) ∧ w'.cell? ⟨b5, 1, none⟩ = some (.string ma) ∧ w'.cell? ⟨b5, 2, none⟩ = some (.int .i64 va.kind) ∧ w'.cell? ⟨b5, 3, none⟩ = some (.int .i64 va.n) ∧ w'.cell? ⟨b5, 4, none⟩ = some (.string va.text) ∧ w'.cell? ⟨b5, 5, none⟩ = some (.int .i64 loa) ∧ w'.cell? ⟨b5, 6, none⟩ = some (.int .i64 hia) ∧ w'.cell? ⟨b5, 7, none⟩ = some (.slice La na ca) ∧ w'.cell? ⟨(w.heap.size + 1), 0, none⟩ = some (.int .i64 p.id) ∧ w'.cell? ⟨(w.heap.size + 1), 1, none⟩ = some (V0) ∧ w'.cell? ⟨(w.heap.size + 1), 2, none⟩ = some (F)) (first | exact ⟨KA6.cell 0 rfl, KA6.cell 1 rfl, KA6.cell 2 rfl, KA6.cell 3 rfl, KA6.cell 4 rfl, KA6.cell 5 rfl, KA6.cell 6 rfl, KA6.cell 7 rfl, K36.cell 0 rfl, K36.cell 1 rfl, K36.cell 2 rfl⟩ | exact ⟨KA5.cell 0 rfl, KA5.cell 1 rfl, KA5.cell 2 rfl, KA5.cell 3 rfl, KA5.cell 4 rfl, KA5.cell 5 rfl, KA5.cell 6 rfl, KA5.cell 7 rfl, K35.cell 0 rfl, K35.cell 1 rfl, K35.cell 2 rfl⟩ | exact ⟨KA4.cell 0 rfl, KA4.cell 1 rfl, KA4.cell 2 rfl, KA4.cell 3 rfl, KA4.cell 4 rfl, KA4.cell 5 rfl, KA4.cell 6 rfl, KA4.cell 7 rfl, K34.cell 0 rfl, K34.cell 1 rfl, K34.cell 2 rfl⟩ | go_keep)
      (first
        | (go_at_call 11; go_must (refine (kN.out w4 _ n a _ (by repeat (first | exact Below.refl _ _ | refine Below.drew ?_)) ra4.out).mono ?_; rintro e w5 ⟨⟨A5, m5, c5, rfl, hnc⟩, hb0⟩; have hb : Below w4.heap.size w4 w5 := below_step hb0 (by repeat (first | exact Below.refl _ _ | refine Below.drew ?_)); have hnc5 := Lib.hid hnc; have HB5 := Lib.hid (below_step hb HB4); have K35 := K34.below hb; have KA5 := KA4.below hb; have KB5 := KB4.below hb; have KC5 := KC4.below hb; clear hb hb0 hnc))
        | (go_at_call 10; go_must (refine (kP.out w5 _ _ _ _ (!x) (by repeat (first | exact Below.refl _ _ | refine Below.drew ?_)) (hI.below HB5.out) hnc5.out (by rw [passes_notC, ← hx.out])).mono ?_; rintro e w6 ⟨rfl, hb0⟩; have hb : Below w5.heap.size w5 w6 := below_step hb0 (by repeat (first | exact Below.refl _ _ | refine Below.drew ?_)); have HB6 := below_step hb HB5.out; have K36 := K35.below hb; have KA6 := KA5.below hb; have KB6 := KB5.below hb; have KC6 := KC5.below hb; clear hb hb0)))
    go_wp2
    clear HB4 KA4 KB4 KC4 K34 ra4 rb4 rc4 K35 KA5 KB5 KC5 HB5 hI4
    have hI6 := Lib.hid (hI.below HB6)
    have HB6' := Lib.hid HB6
    clear HB6
    refine wp_region_inv (J5 (fun u34 u35 u36 u37 u38 u39 u40 u41 u42 u43 u11 u12 => #[.agg #[.int .i64 ka, .string ma, .int .i64 va.kind, .int .i64 va.n, .string va.text, .int .i64 loa, .int .i64 hia, .slice La na ca, .int .i64 kb, .string mb, .int .i64 vb.kind, .int .i64 vb.n, .string vb.text, .int .i64 lob, .int .i64 hib, .slice Lb nb cb, .int .i64 kc, .string mc, .int .i64 vc.kind, .int .i64 vc.n, .string vc.text, .int .i64 loc, .int .i64 hic, .slice Lc nc cc], .agg #[.int .i64 p.id, V0, F], .pointer (some ⟨w.heap.size, 0, none⟩), .pointer (some ⟨w.heap.size + 1, 0, none⟩), .bool false, .pointer (some ⟨b5, 0, none⟩), .pointer (some ⟨b6, 0, none⟩), .pointer (some ⟨b7, 0, none⟩), .bool x, .bool y, .bool z, u11, u12, .pointer (some ⟨w.heap.size, 0, none⟩), .agg #[.int .i64 ka, .string ma, .int .i64 va.kind, .int .i64 va.n, .string va.text, .int .i64 loa, .int .i64 hia, .slice La na ca], .pointer (some ⟨w.heap.size, 8, none⟩), .agg #[.int .i64 kb, .string mb, .int .i64 vb.kind, .int .i64 vb.n, .string vb.text, .int .i64 lob, .int .i64 hib, .slice Lb nb cb], .pointer (some ⟨w.heap.size, 16, none⟩), .agg #[.int .i64 kc, .string mc, .int .i64 vc.kind, .int .i64 vc.n, .string vc.text, .int .i64 loc, .int .i64 hic, .slice Lc nc cc], .agg #[.int .i64 ka, .string ma, .int .i64 va.kind, .int .i64 va.n, .string va.text, .int .i64 loa, .int .i64 hia, .slice La na ca], .agg #[.int .i64 p.id, V0, F], .bool x, .agg #[.int .i64 kb, .string mb, .int .i64 vb.kind, .int .i64 vb.n, .string vb.text, .int .i64 lob, .int .i64 hib, .slice Lb nb cb], .agg #[.int .i64 p.id, V0, F], .bool y, .agg #[.int .i64 kc, .string mc, .int .i64 vc.kind, .int .i64 vc.n, .string vc.text, .int .i64 loc, .int .i64 hic, .slice Lc nc cc], .agg #[.int .i64 p.id, V0, F], .bool z, .agg #[.int .i64 ka, .string ma, .int .i64 va.kind, .int .i64 va.n, .string va.text, .int .i64 loa, .int .i64 hia, .slice La na ca], .agg #[.int .i64 6, .string ⟨#[]⟩, .int .i64 0, .int .i64 0, .string ⟨#[]⟩, .int .i64 0, .int .i64 0, .slice A5 m5 c5], .agg #[.int .i64 p.id, V0, F], .bool (!x), .bool x, .bool false, u34, u35, u36, u37, u38, u39, u40, u41, u42, u43, undef, undef, undef, undef, undef, undef, undef, undef, undef, undef, undef, undef, undef, undef, undef, undef, undef, undef, undef, undef, undef, undef, undef, undef, undef, undef, undef, undef, undef, undef, undef, undef, undef, undef, undef, undef, undef, undef, undef, undef, undef, undef, undef, undef, undef, undef, undef, undef, undef, undef, undef, undef, undef, undef, undef, undef, undef, undef, undef, undef, undef, undef, undef, undef, undef, undef, undef, undef, undef, undef, undef, undef, undef, undef, undef, undef, undef, undef, undef, undef, undef, undef, undef, undef, undef, undef, undef, undef, undef, undef, undef, undef, undef, undef, undef, undef, undef, undef, undef]) w6 [.int .i64 ka, .string ma, .int .i64 va.kind, .int .i64 va.n, .string va.text, .int .i64 loa, .int .i64 hia, .slice La na ca] [.int .i64 kb, .string mb, .int .i64 vb.kind, .int .i64 vb.n, .string vb.text, .int .i64 lob, .int .i64 hib, .slice Lb nb cb] [.int .i64 kc, .string mc, .int .i64 vc.kind, .int .i64 vc.n, .string vc.text, .int .i64 loc, .int .i64 hic, .slice Lc nc cc]) (by kernel_rfl) (by kernel_rfl) ?h5 ?s5 ?d5
    case h5 => exact ⟨undef, undef, undef, undef, undef, undef, undef, undef, undef, undef, undef, undef, 0, 0, 0, 0, rfl, { below := Below.drew (Below.refl _ _), l0 := (fun e => by cases e), l1 := (fun e => by cases e), l2 := (fun e => by cases e), l5 := (fun e => by cases e), l6 := (fun e => by cases e), l7 := (fun e => by cases e), s3 := (fun e => by cases e), s8 := (fun e => by cases e), c4 := (fun e => by cases e), c9 := (fun e => by cases e), a10 := (fun e => by cases e), a11 := (fun e => by cases e), d3_10 := (fun e => by cases e), d3_11 := (fun e => by cases e), d8_10 := (fun e => by cases e), d8_11 := (fun e => by cases e), d10_11 := (fun e => by cases e), e12 := (fun e => by cases e), e13 := (fun e => by cases e) }⟩
    case s5 =>
      refine ⟨?_, ?_, ?_, ?_, ?_, ?_, ?_, ?_, ?_, ?_, ?_, ?_, ?_, ?_, trivial⟩
      · rintro f a W ⟨u34, u35, u36, u37, u38, u39, u40, u41, u42, u43, u11, u12, g3, g8, x10, x11, rfl, h⟩ hf he
        simp [Region.binds] at he
        dsimp only
        have q := box8 (KA6.below h.below)
        have HH := Lib.hid h
        clear h
        obtain ⟨q0, q1, q2, q3, q4, q5, q6, q7⟩ := q
        go_wp2_with fail
        exact ⟨_, _, _, _, _, _, _, _, _, _, _, _, g3, g8, x10, x11, rfl, { HH.out with l0 := (fun _ => rfl) }⟩
      · rintro f a W ⟨u34, u35, u36, u37, u38, u39, u40, u41, u42, u43, u11, u12, g3, g8, x10, x11, rfl, h⟩ hf he
        simp [Region.binds] at he
        dsimp only
        have q := box8 (KB6.below h.below)
        have HH := Lib.hid h
        clear h
        obtain ⟨q0, q1, q2, q3, q4, q5, q6, q7⟩ := q
        go_wp2_with fail
        exact ⟨_, _, _, _, _, _, _, _, _, _, _, _, g3, g8, x10, x11, rfl, { HH.out with l1 := (fun _ => rfl) }⟩
      · rintro f a W ⟨u34, u35, u36, u37, u38, u39, u40, u41, u42, u43, u11, u12, g3, g8, x10, x11, rfl, h⟩ hf he
        simp [Region.binds] at he
        dsimp only
        have q := box8 (KC6.below h.below)
        have HH := Lib.hid h
        clear h
        obtain ⟨q0, q1, q2, q3, q4, q5, q6, q7⟩ := q
        go_wp2_with fail
        exact ⟨_, _, _, _, _, _, _, _, _, _, _, _, g3, g8, x10, x11, rfl, { HH.out with l2 := (fun _ => rfl) }⟩
      · rintro f a W ⟨u34, u35, u36, u37, u38, u39, u40, u41, u42, u43, u11, u12, g3, g8, x10, x11, rfl, h⟩ hf he
        simp [Region.binds] at he
        dsimp only
        obtain ⟨e0, e1, e2⟩ := he
        have hu0 := h.l0 e0
        subst hu0
        have hu1 := h.l1 e1
        subst hu1
        have hu2 := h.l2 e2
        subst hu2
        have HH := Lib.hid h
        clear h
        go_wp2_with fail
        exact ⟨_, _, _, _, _, _, _, _, _, _, _, _, W.heap.size, g8, x10, x11, rfl, { HH.out.grow (below_allocS (Below.refl _ _) _) with s3 := (fun _ => ⟨rfl, Blk.new W ([.int .i64 ka, .string ma, .int .i64 va.kind, .int .i64 va.n, .string va.text, .int .i64 loa, .int .i64 hia, .slice La na ca] ++ [.int .i64 kb, .string mb, .int .i64 vb.kind, .int .i64 vb.n, .string vb.text, .int .i64 lob, .int .i64 hib, .slice Lb nb cb] ++ [.int .i64 kc, .string mc, .int .i64 vc.kind, .int .i64 vc.n, .string vc.text, .int .i64 loc, .int .i64 hic, .slice Lc nc cc]) _⟩), c4 := (fun e => by have := (HH.out.c4 e).1; rw [hf] at this; cases this), a10 := (fun e => by obtain ⟨e1, e2, k, nm, v, lo, hi, A, m, c, e3, e4⟩ := HH.out.a10 e; exact ⟨e1, e2, k, nm, v, lo, hi, A, m, c, e3.below (below_allocS (Below.refl _ _) _), fun e5 => by have := (e4 e5).1; rw [hf] at this; cases this⟩), d3_10 := (fun _ e => by obtain ⟨e1, e2, k, nm, v, lo, hi, A, m, c, e3, e4⟩ := HH.out.a10 e; exact Nat.ne_of_gt e3.lt), d3_11 := (fun _ e => by obtain ⟨e1, e2, k, nm, v, lo, hi, A, m, c, e3, e4⟩ := HH.out.a11 e; exact Nat.ne_of_gt e3.lt) }⟩
      · rintro f a W ⟨u34, u35, u36, u37, u38, u39, u40, u41, u42, u43, u11, u12, g3, g8, x10, x11, rfl, h⟩ hf he
        simp [Region.binds] at he
        dsimp only
        obtain ⟨hs, hs2⟩ := h.s3 (by simp [he])
        have HH := Lib.hid h
        clear h hs2
        have HS := Lib.hid hs
        subst hs
        go_wp2_with (go_at_call 12; go_must (refine (of_calls _ 7 _ _ _).mono ?_; rintro e W' ⟨rfl, hb⟩))
        exact ⟨_, _, _, _, _, _, _, _, _, _, _, _, g3, g8, x10, x11, rfl, { HH.out.grow hb with c4 := (fun _ => ⟨by simp [upd, he], rfl⟩) }⟩
      · rintro f a W ⟨u34, u35, u36, u37, u38, u39, u40, u41, u42, u43, u11, u12, g3, g8, x10, x11, rfl, h⟩ hf he
        simp [Region.binds] at he
        dsimp only
        have q := box8 (KA6.below h.below)
        have HH := Lib.hid h
        clear h
        obtain ⟨q0, q1, q2, q3, q4, q5, q6, q7⟩ := q
        go_wp2_with fail
        exact ⟨_, _, _, _, _, _, _, _, _, _, _, _, g3, g8, x10, x11, rfl, { HH.out with l5 := (fun _ => rfl) }⟩
      · rintro f a W ⟨u34, u35, u36, u37, u38, u39, u40, u41, u42, u43, u11, u12, g3, g8, x10, x11, rfl, h⟩ hf he
        simp [Region.binds] at he
        dsimp only
        have q := box8 (KB6.below h.below)
        have HH := Lib.hid h
        clear h
        obtain ⟨q0, q1, q2, q3, q4, q5, q6, q7⟩ := q
        go_wp2_with fail
        exact ⟨_, _, _, _, _, _, _, _, _, _, _, _, g3, g8, x10, x11, rfl, { HH.out with l6 := (fun _ => rfl) }⟩
      · rintro f a W ⟨u34, u35, u36, u37, u38, u39, u40, u41, u42, u43, u11, u12, g3, g8, x10, x11, rfl, h⟩ hf he
        simp [Region.binds] at he
        dsimp only
        have q := box8 (KC6.below h.below)
        have HH := Lib.hid h
        clear h
        obtain ⟨q0, q1, q2, q3, q4, q5, q6, q7⟩ := q
        go_wp2_with fail
        exact ⟨_, _, _, _, _, _, _, _, _, _, _, _, g3, g8, x10, x11, rfl, { HH.out with l7 := (fun _ => rfl) }⟩
      · rintro f a W ⟨u34, u35, u36, u37, u38, u39, u40, u41, u42, u43, u11, u12, g3, g8, x10, x11, rfl, h⟩ hf he
        simp [Region.binds] at he
        dsimp only
        obtain ⟨e5, e6, e7⟩ := he
        have hu5 := h.l5 e5
        subst hu5
        have hu6 := h.l6 e6
        subst hu6
        have hu7 := h.l7 e7
        subst hu7
        have HH := Lib.hid h
        clear h
        go_wp2_with fail
        exact ⟨_, _, _, _, _, _, _, _, _, _, _, _, g3, W.heap.size, x10, x11, rfl, { HH.out.grow (below_allocS (Below.refl _ _) _) with s8 := (fun _ => ⟨rfl, Blk.new W ([.int .i64 ka, .string ma, .int .i64 va.kind, .int .i64 va.n, .string va.text, .int .i64 loa, .int .i64 hia, .slice La na ca] ++ [.int .i64 kb, .string mb, .int .i64 vb.kind, .int .i64 vb.n, .string vb.text, .int .i64 lob, .int .i64 hib, .slice Lb nb cb] ++ [.int .i64 kc, .string mc, .int .i64 vc.kind, .int .i64 vc.n, .string vc.text, .int .i64 loc, .int .i64 hic, .slice Lc nc cc]) _⟩), c9 := (fun e => by have := (HH.out.c9 e).1; rw [hf] at this; cases this), a11 := (fun e => by obtain ⟨e1, e2, k, nm, v, lo, hi, A, m, c, e3, e4⟩ := HH.out.a11 e; exact ⟨e1, e2, k, nm, v, lo, hi, A, m, c, e3.below (below_allocS (Below.refl _ _) _), fun e5 => by have := (e4 e5).1; rw [hf] at this; cases this⟩), d8_10 := (fun _ e => by obtain ⟨e1, e2, k, nm, v, lo, hi, A, m, c, e3, e4⟩ := HH.out.a10 e; exact Nat.ne_of_gt e3.lt), d8_11 := (fun _ e => by obtain ⟨e1, e2, k, nm, v, lo, hi, A, m, c, e3, e4⟩ := HH.out.a11 e; exact Nat.ne_of_gt e3.lt) }⟩
      · rintro f a W ⟨u34, u35, u36, u37, u38, u39, u40, u41, u42, u43, u11, u12, g3, g8, x10, x11, rfl, h⟩ hf he
        simp [Region.binds] at he
        dsimp only
        obtain ⟨hs, hs2⟩ := h.s8 (by simp [he])
        have HH := Lib.hid h
        clear h hs2
        have HS := Lib.hid hs
        subst hs
        go_wp2_with (go_at_call 12; go_must (refine (of_calls _ 8 _ _ _).mono ?_; rintro e W' ⟨rfl, hb⟩))
        exact ⟨_, _, _, _, _, _, _, _, _, _, _, _, g3, g8, x10, x11, rfl, { HH.out.grow hb with c9 := (fun _ => ⟨by simp [upd, he], rfl⟩) }⟩
      · rintro f a W ⟨u34, u35, u36, u37, u38, u39, u40, u41, u42, u43, u11, u12, g3, g8, x10, x11, rfl, h⟩ hf he
        simp [Region.binds] at he
        dsimp only
        have HH := Lib.hid h
        clear h
        go_wp2_with fail
        exact ⟨_, _, _, _, _, _, _, _, _, _, _, _, g3, g8, W.heap.size, x11, rfl, { HH.out.grow (below_allocS (Below.refl _ _) _) with a10 := (fun _ => ⟨rfl, HH.out.below.size, 0, ⟨#[]⟩, Val.zero, 0, 0, none, 0, 0, Blk.new W (cCells 0 ⟨#[]⟩ Val.zero 0 0 (.slice none 0 0)) _, fun e => by have := HH.out.e12 e; rw [hf] at this; cases this⟩), e12 := (fun _ => rfl), d3_10 := (fun e _ => Nat.ne_of_lt (HH.out.s3 e).2.lt), d8_10 := (fun e _ => Nat.ne_of_lt (HH.out.s8 e).2.lt), d10_11 := (fun _ e => by obtain ⟨e1, e2, k, nm, v, lo, hi, A, m, c, e3, e4⟩ := HH.out.a11 e; exact Nat.ne_of_gt e3.lt) }⟩
      · rintro f a W ⟨u34, u35, u36, u37, u38, u39, u40, u41, u42, u43, u11, u12, g3, g8, x10, x11, rfl, h⟩ hf he
        simp [Region.binds] at he
        dsimp only
        have HH := Lib.hid h
        clear h
        go_wp2_with fail
        exact ⟨_, _, _, _, _, _, _, _, _, _, _, _, g3, g8, x10, W.heap.size, rfl, { HH.out.grow (below_allocS (Below.refl _ _) _) with a11 := (fun _ => ⟨rfl, HH.out.below.size, 0, ⟨#[]⟩, Val.zero, 0, 0, none, 0, 0, Blk.new W (cCells 0 ⟨#[]⟩ Val.zero 0 0 (.slice none 0 0)) _, fun e => by have := HH.out.e13 e; rw [hf] at this; cases this⟩), e13 := (fun _ => rfl), d3_11 := (fun e _ => Nat.ne_of_lt (HH.out.s3 e).2.lt), d8_11 := (fun e _ => Nat.ne_of_lt (HH.out.s8 e).2.lt), d10_11 := (fun e _ => by obtain ⟨e1, e2, k, nm, v, lo, hi, A, m, c, e3, e4⟩ := HH.out.a10 e; exact Nat.ne_of_lt e3.lt) }⟩
      · rintro f a W ⟨u34, u35, u36, u37, u38, u39, u40, u41, u42, u43, u11, u12, g3, g8, x10, x11, rfl, h⟩ hf he
        simp [Region.binds] at he
        dsimp only
        obtain ⟨hp1, hp2, k0, nm0, v0, lo0, hi0, A0, m0, c0, hblk, _⟩ := h.a10 (by simp [he])
        obtain ⟨hc0, hc1⟩ := h.c4 (by simp [he])
        have hfa : f 10 = true := by simp [he]
        have q := box8 hblk
        have HZ := hblk.frozen
        have hs3 := (h.s3 hc0).1
        have hbl := Lib.hid hblk
        have HP := Lib.hid hp1
        have HC := Lib.hid hc1
        have HH := Lib.hid h
        clear h hblk
        subst hp1 hc1 hs3
        obtain ⟨q0, q1, q2, q3, q4, q5, q6, q7⟩ := q
        simp only [cCells, Val.zero]
        go_wp2_with fail
        exact ⟨_, _, _, _, _, _, _, _, _, _, _, _, g3, g8, x10, x11, rfl, { HH.out with s3 := (fun e => ⟨(HH.out.s3 e).1, (((((((((HH.out.s3 e).2.far (HH.out.d3_10 e hfa) _).far (HH.out.d3_10 e hfa) _).far (HH.out.d3_10 e hfa) _).far (HH.out.d3_10 e hfa) _).far (HH.out.d3_10 e hfa) _).far (HH.out.d3_10 e hfa) _).far (HH.out.d3_10 e hfa) _).far (HH.out.d3_10 e hfa) _)⟩), s8 := (fun e => ⟨(HH.out.s8 e).1, (((((((((HH.out.s8 e).2.far (HH.out.d8_10 e hfa) _).far (HH.out.d8_10 e hfa) _).far (HH.out.d8_10 e hfa) _).far (HH.out.d8_10 e hfa) _).far (HH.out.d8_10 e hfa) _).far (HH.out.d8_10 e hfa) _).far (HH.out.d8_10 e hfa) _).far (HH.out.d8_10 e hfa) _)⟩), a11 := (fun e => by obtain ⟨e1, e2, k, nm, v, lo, hi, A, m, c, e3, e4⟩ := HH.out.a11 e; exact ⟨e1, e2, k, nm, v, lo, hi, A, m, c, ((((((((e3.far (Ne.symm (HH.out.d10_11 hfa e)) _).far (Ne.symm (HH.out.d10_11 hfa e)) _).far (Ne.symm (HH.out.d10_11 hfa e)) _).far (Ne.symm (HH.out.d10_11 hfa e)) _).far (Ne.symm (HH.out.d10_11 hfa e)) _).far (Ne.symm (HH.out.d10_11 hfa e)) _).far (Ne.symm (HH.out.d10_11 hfa e)) _).far (Ne.symm (HH.out.d10_11 hfa e)) _), e4⟩), a10 := (fun e => ⟨rfl, hp2, 7, ⟨#[]⟩, Val.zero, 0, 0, some ⟨g3, 0, none⟩, 3, 3, ((((((((hbl.out.set 0 _).set 1 _).set 2 _).set 3 _).set 4 _).set 5 _).set 6 _).set 7 _), fun _ => ⟨hc0, rfl⟩⟩), e12 := (fun _ => hfa), below := (setCells_below HH.out.below hp2) }⟩
      · rintro f a W ⟨u34, u35, u36, u37, u38, u39, u40, u41, u42, u43, u11, u12, g3, g8, x10, x11, rfl, h⟩ hf he
        simp [Region.binds] at he
        dsimp only
        obtain ⟨hp1, hp2, k0, nm0, v0, lo0, hi0, A0, m0, c0, hblk, _⟩ := h.a11 (by simp [he])
        obtain ⟨hc0, hc1⟩ := h.c9 (by simp [he])
        have hfa : f 11 = true := by simp [he]
        have q := box8 hblk
        have HZ := hblk.frozen
        have hs3 := (h.s8 hc0).1
        have hbl := Lib.hid hblk
        have HP := Lib.hid hp1
        have HC := Lib.hid hc1
        have HH := Lib.hid h
        clear h hblk
        subst hp1 hc1 hs3
        obtain ⟨q0, q1, q2, q3, q4, q5, q6, q7⟩ := q
        simp only [cCells, Val.zero]
        go_wp2_with fail
        exact ⟨_, _, _, _, _, _, _, _, _, _, _, _, g3, g8, x10, x11, rfl, { HH.out with s3 := (fun e => ⟨(HH.out.s3 e).1, (((((((((HH.out.s3 e).2.far (HH.out.d3_11 e hfa) _).far (HH.out.d3_11 e hfa) _).far (HH.out.d3_11 e hfa) _).far (HH.out.d3_11 e hfa) _).far (HH.out.d3_11 e hfa) _).far (HH.out.d3_11 e hfa) _).far (HH.out.d3_11 e hfa) _).far (HH.out.d3_11 e hfa) _)⟩), s8 := (fun e => ⟨(HH.out.s8 e).1, (((((((((HH.out.s8 e).2.far (HH.out.d8_11 e hfa) _).far (HH.out.d8_11 e hfa) _).far (HH.out.d8_11 e hfa) _).far (HH.out.d8_11 e hfa) _).far (HH.out.d8_11 e hfa) _).far (HH.out.d8_11 e hfa) _).far (HH.out.d8_11 e hfa) _).far (HH.out.d8_11 e hfa) _)⟩), a10 := (fun e => by obtain ⟨e1, e2, k, nm, v, lo, hi, A, m, c, e3, e4⟩ := HH.out.a10 e; exact ⟨e1, e2, k, nm, v, lo, hi, A, m, c, ((((((((e3.far (HH.out.d10_11 e hfa) _).far (HH.out.d10_11 e hfa) _).far (HH.out.d10_11 e hfa) _).far (HH.out.d10_11 e hfa) _).far (HH.out.d10_11 e hfa) _).far (HH.out.d10_11 e hfa) _).far (HH.out.d10_11 e hfa) _).far (HH.out.d10_11 e hfa) _), e4⟩), a11 := (fun e => ⟨rfl, hp2, 8, ⟨#[]⟩, Val.zero, 0, 0, some ⟨g8, 0, none⟩, 3, 3, ((((((((hbl.out.set 0 _).set 1 _).set 2 _).set 3 _).set 4 _).set 5 _).set 6 _).set 7 _), fun _ => ⟨hc0, rfl⟩⟩), e13 := (fun _ => hfa), below := (setCells_below HH.out.below hp2) }⟩
    case d5 =>
      rintro f a W7 ⟨u34, u35, u36, u37, u38, u39, u40, u41, u42, u43, u11, u12, g3, g8, x10, x11, rfl, h⟩ hall
      have hall := fun i hi => hall i hi
      obtain ⟨e11, e10, _, _, _, _, _, _, _, _, KX0, ex⟩ := h.a10 (hall 10 (by simp))
      obtain ⟨e12, e13, _, _, _, _, _, _, _, _, KY0, ey⟩ := h.a11 (hall 11 (by simp))
      obtain ⟨_, ex⟩ := ex (hall 12 (by simp))
      obtain ⟨_, ey⟩ := ey (hall 13 (by simp))
      obtain ⟨e37, KG⟩ := h.s3 (hall 3 (by simp))
      obtain ⟨e42, KL⟩ := h.s8 (hall 8 (by simp))
      rw [ex, e37] at KX0
      rw [ey, e42] at KY0
      have hb := h.below
      have HB7 : Below w.heap.size w W7 := below_step hb HB6'.out
      have K37 := K36.below hb
      have KA7 := KA6.below hb
      have KB7 := KB6.below hb
      have KC7 := KC6.below hb
      clear hall h hb ex ey e10 e13 KA6 KB6 KC6 K36
      subst e11 e12 e37 e42
      have ra7 := Lib.hid (ra.mono (hI.below HB7))
      have rb7 := Lib.hid (rb.mono (hI.below HB7))
      have rc7 := Lib.hid (rc.mono (hI.below HB7))
      have rand := Lib.hid (rc3 7 ra7.out rb7.out rc7.out KG)
      have ror := Lib.hid (rc3 8 ra7.out rb7.out rc7.out KL)
      clear KG KL
      have KB := B6.mk KA7 KB7 KC7 K37 KX0 KY0
      clear KA7 KB7 KC7 K37 KX0 KY0
      have HB7' := Lib.hid HB7
      have hI7 := Lib.hid (hI.below HB7)
      obtain ⟨qa, hqa⟩ : ∃ qa : Bool, Hid (qa = (x && y && z)) := ⟨_, Lib.hid rfl⟩
      obtain ⟨qo, hqo⟩ : ∃ qo : Bool, Hid (qo = (x || y || z)) := ⟨_, Lib.hid rfl⟩
      have pA : Hid (passes p.flds (.mk 7 ⟨#[]⟩ Val.zero 0 0 [a, b, c]) = qa) := Lib.hid (by rw [passes7, hqa.out, hx.out, hy.out, hz.out])
      have pO : Hid (passes p.flds (.mk 8 ⟨#[]⟩ Val.zero 0 0 [a, b, c]) = qo) := Lib.hid (by rw [passes8, hqo.out, hx.out, hy.out, hz.out])
      have pNA : Hid (passes p.flds (notC (.mk 7 ⟨#[]⟩ Val.zero 0 0 [a, b, c])) = !qa) := Lib.hid (by rw [passes_notC, pA.out])
      have pNO : Hid (passes p.flds (notC (.mk 8 ⟨#[]⟩ Val.zero 0 0 [a, b, c])) = !qo) := Lib.hid (by rw [passes_notC, pO.out])
      have pON : Hid (passes p.flds (.mk 8 ⟨#[]⟩ Val.zero 0 0 [notC a, notC b, notC c]) = !qa) := Lib.hid (by rw [passes8, passes_notC, passes_notC, passes_notC, hqa.out, hx.out, hy.out, hz.out]; simp [Bool.or_assoc])
      have pAN : Hid (passes p.flds (.mk 7 ⟨#[]⟩ Val.zero 0 0 [notC a, notC b, notC c]) = !qo) := Lib.hid (by rw [passes7, passes_notC, passes_notC, passes_notC, hqo.out, hx.out, hy.out, hz.out]; simp [Bool.and_assoc])
      have pA4 : Hid (passes p.flds (.mk 7 ⟨#[]⟩ Val.zero 0 0 [c, b, a, a]) = qa) := Lib.hid (by rw [passes74, hqa.out, hx.out, hy.out, hz.out]; cases passes p.flds a <;> cases passes p.flds b <;> cases passes p.flds c <;> rfl)
      have pO4 : Hid (passes p.flds (.mk 8 ⟨#[]⟩ Val.zero 0 0 [c, b, a, b]) = qo) := Lib.hid (by rw [passes84, hqo.out, hx.out, hy.out, hz.out]; cases passes p.flds a <;> cases passes p.flds b <;> cases passes p.flds c <;> rfl)
      clear hx hy hz HB7
      obtain ⟨sa, hsa⟩ : ∃ s : Int, Hid (csize a = s) := ⟨_, Lib.hid rfl⟩
      obtain ⟨sb, hsb⟩ : ∃ s : Int, Hid (csize b = s) := ⟨_, Lib.hid rfl⟩
      obtain ⟨sc, hsc⟩ : ∃ s : Int, Hid (csize c = s) := ⟨_, Lib.hid rfl⟩
      have sAnd : Hid (csize (.mk 7 ⟨#[]⟩ Val.zero 0 0 [a, b, c]) = IntKind.i64.wrap (IntKind.i64.wrap (IntKind.i64.wrap (1 + sa) + sb) + sc)) := Lib.hid (by simp only [csize, csizeL, hsa.out, hsb.out, hsc.out, IntWalk.i64_left])
      go_upto_region 6 with (fail)
      refine Code.wp_mono (Q := Cut6 (fun v44 v45 v46 v47 v48 v49 v50 v51 v52 v53 v54 v55 v56 v57 v58 v59 v60 v61 v62 v63 v64 v65 v66 => #[.agg #[.int .i64 ka, .string ma, .int .i64 va.kind, .int .i64 va.n, .string va.text, .int .i64 loa, .int .i64 hia, .slice La na ca, .int .i64 kb, .string mb, .int .i64 vb.kind, .int .i64 vb.n, .string vb.text, .int .i64 lob, .int .i64 hib, .slice Lb nb cb, .int .i64 kc, .string mc, .int .i64 vc.kind, .int .i64 vc.n, .string vc.text, .int .i64 loc, .int .i64 hic, .slice Lc nc cc], .agg #[.int .i64 p.id, V0, F], .pointer (some ⟨w.heap.size, 0, none⟩), .pointer (some ⟨w.heap.size + 1, 0, none⟩), .bool false, .pointer (some ⟨b5, 0, none⟩), .pointer (some ⟨b6, 0, none⟩), .pointer (some ⟨b7, 0, none⟩), .bool x, .bool y, .bool z, .pointer (some ⟨x10, 0, none⟩), .pointer (some ⟨x11, 0, none⟩), .pointer (some ⟨w.heap.size, 0, none⟩), .agg #[.int .i64 ka, .string ma, .int .i64 va.kind, .int .i64 va.n, .string va.text, .int .i64 loa, .int .i64 hia, .slice La na ca], .pointer (some ⟨w.heap.size, 8, none⟩), .agg #[.int .i64 kb, .string mb, .int .i64 vb.kind, .int .i64 vb.n, .string vb.text, .int .i64 lob, .int .i64 hib, .slice Lb nb cb], .pointer (some ⟨w.heap.size, 16, none⟩), .agg #[.int .i64 kc, .string mc, .int .i64 vc.kind, .int .i64 vc.n, .string vc.text, .int .i64 loc, .int .i64 hic, .slice Lc nc cc], .agg #[.int .i64 ka, .string ma, .int .i64 va.kind, .int .i64 va.n, .string va.text, .int .i64 loa, .int .i64 hia, .slice La na ca], .agg #[.int .i64 p.id, V0, F], .bool x, .agg #[.int .i64 kb, .string mb, .int .i64 vb.kind, .int .i64 vb.n, .string vb.text, .int .i64 lob, .int .i64 hib, .slice Lb nb cb], .agg #[.int .i64 p.id, V0, F], .bool y, .agg #[.int .i64 kc, .string mc, .int .i64 vc.kind, .int .i64 vc.n, .string vc.text, .int .i64 loc, .int .i64 hic, .slice Lc nc cc], .agg #[.int .i64 p.id, V0, F], .bool z, .agg #[.int .i64 ka, .string ma, .int .i64 va.kind, .int .i64 va.n, .string va.text, .int .i64 loa, .int .i64 hia, .slice La na ca], .agg #[.int .i64 6, .string ⟨#[]⟩, .int .i64 0, .int .i64 0, .string ⟨#[]⟩, .int .i64 0, .int .i64 0, .slice A5 m5 c5], .agg #[.int .i64 p.id, V0, F], .bool (!x), .bool x, .bool false, u34, u35, u36, .slice (some ⟨g3, 0, none⟩) 3 3, u38, u39, u40, u41, .slice (some ⟨g8, 0, none⟩) 3 3, u43, v44, v45, v46, v47, v48, v49, v50, v51, v52, v53, v54, v55, v56, v57, v58, v59, v60, v61, v62, v63, v64, v65, v66, .bool false, undef, undef, undef, undef, undef, undef, undef, undef, undef, undef, undef, undef, undef, undef, undef, undef, undef, undef, undef, undef, undef, undef, undef, undef, undef, undef, undef, undef, undef, undef, undef, undef, undef, undef, undef, undef, undef, undef, undef, undef, undef, undef, undef, undef, undef, undef, undef, undef, undef, undef, undef, undef, undef, undef, undef, undef, undef, undef, undef, undef, undef, undef, undef, undef, undef, undef, undef, undef, undef, undef, undef, undef, undef, undef, undef]) (fun W' => Below W7.heap.size W7 W')) ?imp6 ?reg6
      case reg6 =>
        have qx := box8 KB.x
        have qy := box8 KB.y
        have qp := box3 KB.pt
        obtain ⟨qx0, qx1, qx2, qx3, qx4, qx5, qx6, qx7⟩ := qx
        obtain ⟨qy0, qy1, qy2, qy3, qy4, qy5, qy6, qy7⟩ := qy
        obtain ⟨qp0, qp1, qp2⟩ := qp
        have k1 := Lib.hid (kP.out W7 W7 _ _ _ _ (Below.refl _ _) hI7.out rand.out pA.out)
        have k2 := Lib.hid (fun W8 hb => kP.out W7 W8 _ _ _ _ hb hI7.out ror.out pO.out)
        rw [hqa.out] at k1
        rw [hqo.out] at k2
        have tk1 := Lib.hid True.intro
        have KB' := Lib.hid KB
        clear KB pA pO pNA pNO pON pAN pA4 pO4
        cases x <;> cases y <;> cases z
        all_goals
          clear hqa hqo
          go_wp2_with (first
            | (clear tk1; go_at_call 10; go_must (refine (k1.out).mono ?_; rintro e W8 ⟨rfl, hb⟩; have HB8 := Lib.hid hb; have qy := box8 (KB'.out.below hb).y; have qp := box3 (KB'.out.below hb).pt; clear hb; obtain ⟨qy0, qy1, qy2, qy3, qy4, qy5, qy6, qy7⟩ := qy; obtain ⟨qp0, qp1, qp2⟩ := qp))
            | (go_at_call 10; go_must (refine (k2.out _ HB8.out).mono ?_; rintro e W9 ⟨rfl, hb⟩; have HB9 := Lib.hid (below_step hb HB8.out); clear hb)))
          exact ⟨rfl, _, _, _, _, _, _, _, _, _, _, _, _, _, _, _, _, _, _, _, _, _, _, _, rfl, HB9.out⟩
      case imp6 =>
        rintro e a' W8 ⟨rfl, v44, v45, v46, v47, v48, v49, v50, v51, v52, v53, v54, v55, v56, v57, v58, v59, v60, v61, v62, v63, v64, v65, v66, rfl, hb8⟩
        have KB8 := KB.below hb8
        clear KB
        have KB := KB8
        clear KB8
        have HB := hb8
        clear hb8
        dsimp only
        go_wp2
        have tk9 := Lib.hid True.intro
        have tk10 := Lib.hid True.intro
        have tk11 := Lib.hid True.intro
        have tk12 := Lib.hid True.intro
        have tk13 := Lib.hid True.intro
        have tk14 := Lib.hid True.intro
        have tk15 := Lib.hid True.intro
        have tk16 := Lib.hid True.intro
        have tk17 := Lib.hid True.intro
        have tk18 := Lib.hid True.intro
        have tk19 := Lib.hid True.intro
        have tk20 := Lib.hid True.intro
        have tk21 := Lib.hid True.intro
        have tk22 := Lib.hid True.intro
        go_region_held3 (fun w' => w'.cell? ⟨b5, 0, none⟩ = some (.int .i64 ka) ∧ w'.cell? ⟨b5, 1, none⟩ = some (.string ma) ∧ w'.cell? ⟨b5, 2, none⟩ = some (.int .i64 va.kind) ∧ w'.cell? ⟨b5, 3, none⟩ = some (.int .i64 va.n) ∧ w'.cell? ⟨b5, 4, none⟩ = some (.string va.text) ∧ w'.cell? ⟨b5, 5, none⟩ = some (.int .i64 loa) ∧ w'.cell? ⟨b5, 6, none⟩ = some (.int .i64 hia) ∧ w'.cell? ⟨b5, 7, none⟩ = some (.slice La na ca) ∧ w'.cell? ⟨b6, 0, none⟩ = some (.int .i64 kb) ∧ w'.cell? ⟨b6, 1, none⟩ = some (.string mb) ∧ w'.cell? ⟨b6, 2, none⟩ = some (.int .i64 vb.kind) ∧ w'.cell? ⟨b6, 3, none⟩ = some (.int .i64 vb.n) ∧ w'.cell? ⟨b6, 4, none⟩ = some (.string vb.text) ∧ w'.cell? ⟨b6, 5, none⟩ = some (.int .i64 lob) ∧ w'.cell? ⟨b6, 6, none⟩ = some (.int .i64 hib) ∧ w'.cell? ⟨b6, 7, none⟩ = some (.slice Lb nb cb) ∧ w'.cell? ⟨b7, 0, none⟩ = some (.int .i64 kc) ∧ w'.cell? ⟨b7, 1, none⟩ = some (.string mc) ∧ w'.cell? ⟨b7, 2, none⟩ = some (.int .i64 vc.kind) ∧ w'.cell? ⟨b7, 3, none⟩ = some (.int .i64 vc.n) ∧ w'.cell? ⟨b7, 4, none⟩ = some (.string vc.text) ∧ w'.cell? ⟨b7, 5, none⟩ = some (.int .i64 loc) ∧ w'.cell? ⟨b7, 6, none⟩ = some (.int .i64 hic) ∧ w'.cell? ⟨b7, 7, none⟩ = some (.slice Lc nc cc) ∧ w'.cell? ⟨(w.heap.size + 1), 0, none⟩ = some (.int .i64 p.id) ∧ w'.cell? ⟨(w.heap.size + 1), 1, none⟩ = some (V0) ∧ w'.cell? ⟨(w.heap.size + 1), 2, none⟩ = some (F) ∧ w'.cell? ⟨x10, 0, none⟩ = some (.int .i64 7) ∧ w'.cell? ⟨x10, 1, none⟩ = some (.string ⟨#[]⟩) ∧ w'.cell? ⟨x10, 2, none⟩ = some (.int .i64 0) ∧ w'.cell? ⟨x10, 3, none⟩ = some (.int .i64 0) ∧ w'.cell? ⟨x10, 4, none⟩ = some (.string ⟨#[]⟩) ∧ w'.cell? ⟨x10, 5, none⟩ = some (.int .i64 0) ∧ w'.cell? ⟨x10, 6, none⟩ = some (.int .i64 0) ∧ w'.cell? ⟨x10, 7, none⟩ = some (.slice (some ⟨g3, 0, none⟩) 3 3) ∧ w'.cell? ⟨x11, 0, none⟩ = some (.int .i64 8) ∧ w'.cell? ⟨x11, 1, none⟩ = some (.string ⟨#[]⟩) ∧ w'.cell? ⟨x11, 2, none⟩ = some (.int .i64 0) ∧ w'.cell? ⟨x11, 3, none⟩ = some (.int .i64 0) ∧ w'.cell? ⟨x11, 4, none⟩ = some (.string ⟨#[]⟩) ∧ w'.cell? ⟨x11, 5, none⟩ = some (.int .i64 0) ∧ w'.cell? ⟨x11, 6, none⟩ = some (.int .i64 0) ∧ w'.cell? ⟨x11, 7, none⟩ = some (.slice (some ⟨g8, 0, none⟩) 3 3)) (first | exact B6.cells (by repeat (first | exact KB | refine B6.drew ?_ | refine B6.alloc ?_ _)) | go_keep)
          (first
          | (clear tk9; go_at_call 11; go_must (refine (kN.out W7 _ _ _ _ (by repeat (first | exact HB | refine Below.drew ?_ | refine below_allocS ?_ _)) rand.out).mono ?_; rintro e w9 ⟨⟨A9, m9, c9, rfl, hnc⟩, hb⟩; have hb9 := Lib.hid (below_step (w := W8) hb (by repeat (first | exact Below.refl _ _ | refine Below.drew ?_ | refine below_allocS ?_ _))); have KBn := KB.below hb9.out; clear KB; have KB := KBn; clear KBn; have HBn := below_step hb9.out HB; clear HB; have HB := HBn; clear HBn; have hN9 := Lib.hid hnc; clear hnc; clear hb))
          | (clear tk10; go_at_call 10; go_must (refine (kP.out w9 _ _ _ _ (!qa) (by repeat (first | exact Below.refl _ _ | refine Below.drew ?_ | refine below_allocS ?_ _)) (hI7.out.below HB) hN9.out pNA.out).mono ?_; rintro e w10 ⟨rfl, hb⟩; have hb10 := Lib.hid (below_step (w := w9) hb (by repeat (first | exact Below.refl _ _ | refine Below.drew ?_ | refine below_allocS ?_ _))); have KBn := KB.below hb10.out; clear KB; have KB := KBn; clear KBn; have HBn := below_step hb10.out HB; clear HB; have HB := HBn; clear HBn; clear hb))
          | (clear tk11; go_at_call 11; go_must (refine (kN.out W7 _ _ _ _ (by repeat (first | exact HB | refine Below.drew ?_ | refine below_allocS ?_ _)) ra7.out).mono ?_; rintro e w11 ⟨⟨A11, m11, c11, rfl, hnc⟩, hb⟩; have hb11 := Lib.hid (below_step (w := w10) hb (by repeat (first | exact Below.refl _ _ | refine Below.drew ?_ | refine below_allocS ?_ _))); have KBn := KB.below hb11.out; clear KB; have KB := KBn; clear KBn; have HBn := below_step hb11.out HB; clear HB; have HB := HBn; clear HBn; have hN11 := Lib.hid hnc; clear hnc; clear hb))
          | (clear tk12; go_at_call 11; go_must (refine (kN.out W7 _ _ _ _ (by repeat (first | exact HB | refine Below.drew ?_ | refine below_allocS ?_ _)) rb7.out).mono ?_; rintro e w12 ⟨⟨A12, m12, c12, rfl, hnc⟩, hb⟩; have hb12 := Lib.hid (below_step (w := w11) hb (by repeat (first | exact Below.refl _ _ | refine Below.drew ?_ | refine below_allocS ?_ _))); have KBn := KB.below hb12.out; clear KB; have KB := KBn; clear KBn; have HBn := below_step hb12.out HB; clear HB; have HB := HBn; clear HBn; have hN12 := Lib.hid hnc; clear hnc; clear hb))
          | (clear tk13; go_at_call 11; go_must (refine (kN.out W7 _ _ _ _ (by repeat (first | exact HB | refine Below.drew ?_ | refine below_allocS ?_ _)) rc7.out).mono ?_; rintro e w13 ⟨⟨A13, m13, c13, rfl, hnc⟩, hb⟩; have hb13 := Lib.hid (below_step (w := w12) hb (by repeat (first | exact Below.refl _ _ | refine Below.drew ?_ | refine below_allocS ?_ _))); have KBn := KB.below hb13.out; clear KB; have KB := KBn; clear KBn; have HBn := below_step hb13.out HB; clear HB; have HB := HBn; clear HBn; have hN13 := Lib.hid hnc; clear hnc; clear hb))
          | (clear tk14; go_at_call 12; go_must (refine (kO.out _ 8 _ _ _).mono ?_; rintro e w14 ⟨rfl, hb⟩; have hb14 := Lib.hid (below_step (w := w13) hb (by repeat (first | exact Below.refl _ _ | refine Below.drew ?_ | refine below_allocS ?_ _))); have KBn := KB.below hb14.out; clear KB; have KB := KBn; clear KBn; have HBn := below_step hb14.out HB; clear HB; have HB := HBn; clear HBn; have hN14 := Lib.hid (rc3 8 (hN11.out.mono ((In.hp _).below (below_step hb14.out (below_step hb13.out hb12.out)))) (hN12.out.mono ((In.hp _).below (below_step hb14.out hb13.out))) (hN13.out.mono ((In.hp _).below hb14.out)) ((Blk.new _ [.int .i64 6, .string ⟨#[]⟩, .int .i64 0, .int .i64 0, .string ⟨#[]⟩, .int .i64 0, .int .i64 0, .slice A11 m11 c11, .int .i64 6, .string ⟨#[]⟩, .int .i64 0, .int .i64 0, .string ⟨#[]⟩, .int .i64 0, .int .i64 0, .slice A12 m12 c12, .int .i64 6, .string ⟨#[]⟩, .int .i64 0, .int .i64 0, .string ⟨#[]⟩, .int .i64 0, .int .i64 0, .slice A13 m13 c13] _).below hb)); clear hb))
          | (clear tk15; go_at_call 10; go_must (refine (kP.out w14 _ _ _ _ (!qa) (by repeat (first | exact Below.refl _ _ | refine Below.drew ?_ | refine below_allocS ?_ _)) (hI7.out.below HB) hN14.out pON.out).mono ?_; rintro e w15 ⟨rfl, hb⟩; have hb15 := Lib.hid (below_step (w := w14) hb (by repeat (first | exact Below.refl _ _ | refine Below.drew ?_ | refine below_allocS ?_ _))); have KBn := KB.below hb15.out; clear KB; have KB := KBn; clear KBn; have HBn := below_step hb15.out HB; clear HB; have HB := HBn; clear HBn; clear hb))
          | (clear tk16; go_at_call 11; go_must (refine (kN.out W7 _ _ _ _ (by repeat (first | exact HB | refine Below.drew ?_ | refine below_allocS ?_ _)) ror.out).mono ?_; rintro e w16 ⟨⟨A16, m16, c16, rfl, hnc⟩, hb⟩; have hb16 := Lib.hid (below_step (w := w15) hb (by repeat (first | exact Below.refl _ _ | refine Below.drew ?_ | refine below_allocS ?_ _))); have KBn := KB.below hb16.out; clear KB; have KB := KBn; clear KBn; have HBn := below_step hb16.out HB; clear HB; have HB := HBn; clear HBn; have hN16 := Lib.hid hnc; clear hnc; clear hb))
          | (clear tk17; go_at_call 10; go_must (refine (kP.out w16 _ _ _ _ (!qo) (by repeat (first | exact Below.refl _ _ | refine Below.drew ?_ | refine below_allocS ?_ _)) (hI7.out.below HB) hN16.out pNO.out).mono ?_; rintro e w17 ⟨rfl, hb⟩; have hb17 := Lib.hid (below_step (w := w16) hb (by repeat (first | exact Below.refl _ _ | refine Below.drew ?_ | refine below_allocS ?_ _))); have KBn := KB.below hb17.out; clear KB; have KB := KBn; clear KBn; have HBn := below_step hb17.out HB; clear HB; have HB := HBn; clear HBn; clear hb))
          | (clear tk18; go_at_call 11; go_must (refine (kN.out W7 _ _ _ _ (by repeat (first | exact HB | refine Below.drew ?_ | refine below_allocS ?_ _)) ra7.out).mono ?_; rintro e w18 ⟨⟨A18, m18, c18, rfl, hnc⟩, hb⟩; have hb18 := Lib.hid (below_step (w := w17) hb (by repeat (first | exact Below.refl _ _ | refine Below.drew ?_ | refine below_allocS ?_ _))); have KBn := KB.below hb18.out; clear KB; have KB := KBn; clear KBn; have HBn := below_step hb18.out HB; clear HB; have HB := HBn; clear HBn; have hN18 := Lib.hid hnc; clear hnc; clear hb))
          | (clear tk19; go_at_call 11; go_must (refine (kN.out W7 _ _ _ _ (by repeat (first | exact HB | refine Below.drew ?_ | refine below_allocS ?_ _)) rb7.out).mono ?_; rintro e w19 ⟨⟨A19, m19, c19, rfl, hnc⟩, hb⟩; have hb19 := Lib.hid (below_step (w := w18) hb (by repeat (first | exact Below.refl _ _ | refine Below.drew ?_ | refine below_allocS ?_ _))); have KBn := KB.below hb19.out; clear KB; have KB := KBn; clear KBn; have HBn := below_step hb19.out HB; clear HB; have HB := HBn; clear HBn; have hN19 := Lib.hid hnc; clear hnc; clear hb))
          | (clear tk20; go_at_call 11; go_must (refine (kN.out W7 _ _ _ _ (by repeat (first | exact HB | refine Below.drew ?_ | refine below_allocS ?_ _)) rc7.out).mono ?_; rintro e w20 ⟨⟨A20, m20, c20, rfl, hnc⟩, hb⟩; have hb20 := Lib.hid (below_step (w := w19) hb (by repeat (first | exact Below.refl _ _ | refine Below.drew ?_ | refine below_allocS ?_ _))); have KBn := KB.below hb20.out; clear KB; have KB := KBn; clear KBn; have HBn := below_step hb20.out HB; clear HB; have HB := HBn; clear HBn; have hN20 := Lib.hid hnc; clear hnc; clear hb))
          | (clear tk21; go_at_call 12; go_must (refine (kO.out _ 7 _ _ _).mono ?_; rintro e w21 ⟨rfl, hb⟩; have hb21 := Lib.hid (below_step (w := w20) hb (by repeat (first | exact Below.refl _ _ | refine Below.drew ?_ | refine below_allocS ?_ _))); have KBn := KB.below hb21.out; clear KB; have KB := KBn; clear KBn; have HBn := below_step hb21.out HB; clear HB; have HB := HBn; clear HBn; have hN21 := Lib.hid (rc3 7 (hN18.out.mono ((In.hp _).below (below_step hb21.out (below_step hb20.out hb19.out)))) (hN19.out.mono ((In.hp _).below (below_step hb21.out hb20.out))) (hN20.out.mono ((In.hp _).below hb21.out)) ((Blk.new _ [.int .i64 6, .string ⟨#[]⟩, .int .i64 0, .int .i64 0, .string ⟨#[]⟩, .int .i64 0, .int .i64 0, .slice A18 m18 c18, .int .i64 6, .string ⟨#[]⟩, .int .i64 0, .int .i64 0, .string ⟨#[]⟩, .int .i64 0, .int .i64 0, .slice A19 m19 c19, .int .i64 6, .string ⟨#[]⟩, .int .i64 0, .int .i64 0, .string ⟨#[]⟩, .int .i64 0, .int .i64 0, .slice A20 m20 c20] _).below hb)); clear hb))
          | (clear tk22; go_at_call 10; go_must (refine (kP.out w21 _ _ _ _ (!qo) (by repeat (first | exact Below.refl _ _ | refine Below.drew ?_ | refine below_allocS ?_ _)) (hI7.out.below HB) hN21.out pAN.out).mono ?_; rintro e w22 ⟨rfl, hb⟩; have hb22 := Lib.hid (below_step (w := w21) hb (by repeat (first | exact Below.refl _ _ | refine Below.drew ?_ | refine below_allocS ?_ _))); have KBn := KB.below hb22.out; clear KB; have KB := KBn; clear KBn; have HBn := below_step hb22.out HB; clear HB; have HB := HBn; clear HBn; clear hb)))
        go_wp2
        have tk23 := Lib.hid True.intro
        have tk24 := Lib.hid True.intro
        have tk25 := Lib.hid True.intro
        have tk26 := Lib.hid True.intro
        have tk27 := Lib.hid True.intro
        have tk28 := Lib.hid True.intro
        have tk29 := Lib.hid True.intro
        have tk30 := Lib.hid True.intro
        have tk31 := Lib.hid True.intro
        have tk32 := Lib.hid True.intro
        have tk33 := Lib.hid True.intro
        go_region_held3 (fun w' => w'.cell? ⟨b5, 0, none⟩ = some (.int .i64 ka) ∧ w'.cell? ⟨b5, 1, none⟩ = some (.string ma) ∧ w'.cell? ⟨b5, 2, none⟩ = some (.int .i64 va.kind) ∧ w'.cell? ⟨b5, 3, none⟩ = some (.int .i64 va.n) ∧ w'.cell? ⟨b5, 4, none⟩ = some (.string va.text) ∧ w'.cell? ⟨b5, 5, none⟩ = some (.int .i64 loa) ∧ w'.cell? ⟨b5, 6, none⟩ = some (.int .i64 hia) ∧ w'.cell? ⟨b5, 7, none⟩ = some (.slice La na ca) ∧ w'.cell? ⟨b6, 0, none⟩ = some (.int .i64 kb) ∧ w'.cell? ⟨b6, 1, none⟩ = some (.string mb) ∧ w'.cell? ⟨b6, 2, none⟩ = some (.int .i64 vb.kind) ∧ w'.cell? ⟨b6, 3, none⟩ = some (.int .i64 vb.n) ∧ w'.cell? ⟨b6, 4, none⟩ = some (.string vb.text) ∧ w'.cell? ⟨b6, 5, none⟩ = some (.int .i64 lob) ∧ w'.cell? ⟨b6, 6, none⟩ = some (.int .i64 hib) ∧ w'.cell? ⟨b6, 7, none⟩ = some (.slice Lb nb cb) ∧ w'.cell? ⟨b7, 0, none⟩ = some (.int .i64 kc) ∧ w'.cell? ⟨b7, 1, none⟩ = some (.string mc) ∧ w'.cell? ⟨b7, 2, none⟩ = some (.int .i64 vc.kind) ∧ w'.cell? ⟨b7, 3, none⟩ = some (.int .i64 vc.n) ∧ w'.cell? ⟨b7, 4, none⟩ = some (.string vc.text) ∧ w'.cell? ⟨b7, 5, none⟩ = some (.int .i64 loc) ∧ w'.cell? ⟨b7, 6, none⟩ = some (.int .i64 hic) ∧ w'.cell? ⟨b7, 7, none⟩ = some (.slice Lc nc cc) ∧ w'.cell? ⟨(w.heap.size + 1), 0, none⟩ = some (.int .i64 p.id) ∧ w'.cell? ⟨(w.heap.size + 1), 1, none⟩ = some (V0) ∧ w'.cell? ⟨(w.heap.size + 1), 2, none⟩ = some (F) ∧ w'.cell? ⟨x10, 0, none⟩ = some (.int .i64 7) ∧ w'.cell? ⟨x10, 1, none⟩ = some (.string ⟨#[]⟩) ∧ w'.cell? ⟨x10, 2, none⟩ = some (.int .i64 0) ∧ w'.cell? ⟨x10, 3, none⟩ = some (.int .i64 0) ∧ w'.cell? ⟨x10, 4, none⟩ = some (.string ⟨#[]⟩) ∧ w'.cell? ⟨x10, 5, none⟩ = some (.int .i64 0) ∧ w'.cell? ⟨x10, 6, none⟩ = some (.int .i64 0) ∧ w'.cell? ⟨x10, 7, none⟩ = some (.slice (some ⟨g3, 0, none⟩) 3 3) ∧ w'.cell? ⟨x11, 0, none⟩ = some (.int .i64 8) ∧ w'.cell? ⟨x11, 1, none⟩ = some (.string ⟨#[]⟩) ∧ w'.cell? ⟨x11, 2, none⟩ = some (.int .i64 0) ∧ w'.cell? ⟨x11, 3, none⟩ = some (.int .i64 0) ∧ w'.cell? ⟨x11, 4, none⟩ = some (.string ⟨#[]⟩) ∧ w'.cell? ⟨x11, 5, none⟩ = some (.int .i64 0) ∧ w'.cell? ⟨x11, 6, none⟩ = some (.int .i64 0) ∧ w'.cell? ⟨x11, 7, none⟩ = some (.slice (some ⟨g8, 0, none⟩) 3 3)) (first | exact B6.cells (by repeat (first | exact KB | refine B6.drew ?_ | refine B6.alloc ?_ _)) | go_keep)
          (first
          | (clear tk23; go_at_call 12; go_must (refine (kO.out _ 7 _ _ _).mono ?_; rintro e w23 ⟨rfl, hb⟩; have hb23 := Lib.hid (below_step (w := w22) hb (by repeat (first | exact Below.refl _ _ | refine Below.drew ?_ | refine below_allocS ?_ _))); have KBn := KB.below hb23.out; clear KB; have KB := KBn; clear KBn; have HBn := below_step hb23.out HB; clear HB; have HB := HBn; clear HBn; have hN23 := Lib.hid (rc4 7 (rc7.out.mono ((In.hp _).below HB)) (rb7.out.mono ((In.hp _).below HB)) (ra7.out.mono ((In.hp _).below HB)) (ra7.out.mono ((In.hp _).below HB)) ((Blk.new _ [.int .i64 kc, .string mc, .int .i64 vc.kind, .int .i64 vc.n, .string vc.text, .int .i64 loc, .int .i64 hic, .slice Lc nc cc, .int .i64 kb, .string mb, .int .i64 vb.kind, .int .i64 vb.n, .string vb.text, .int .i64 lob, .int .i64 hib, .slice Lb nb cb, .int .i64 ka, .string ma, .int .i64 va.kind, .int .i64 va.n, .string va.text, .int .i64 loa, .int .i64 hia, .slice La na ca, .int .i64 ka, .string ma, .int .i64 va.kind, .int .i64 va.n, .string va.text, .int .i64 loa, .int .i64 hia, .slice La na ca] _).drew.below hb)); clear hb))
          | (clear tk24; go_at_call 10; go_must (refine (kP.out w23 _ _ _ _ qa (by repeat (first | exact Below.refl _ _ | refine Below.drew ?_ | refine below_allocS ?_ _)) (hI7.out.below HB) hN23.out pA4.out).mono ?_; rintro e w24 ⟨rfl, hb⟩; have hb24 := Lib.hid (below_step (w := w23) hb (by repeat (first | exact Below.refl _ _ | refine Below.drew ?_ | refine below_allocS ?_ _))); have KBn := KB.below hb24.out; clear KB; have KB := KBn; clear KBn; have HBn := below_step hb24.out HB; clear HB; have HB := HBn; clear HBn; clear hb))
          | (clear tk25; go_at_call 10; go_must (refine (kP.out W7 _ _ _ _ qa (by repeat (first | exact HB | refine Below.drew ?_ | refine below_allocS ?_ _)) hI7.out rand.out pA.out).mono ?_; rintro e w25 ⟨rfl, hb⟩; have hb25 := Lib.hid (below_step (w := w24) hb (by repeat (first | exact Below.refl _ _ | refine Below.drew ?_ | refine below_allocS ?_ _))); have KBn := KB.below hb25.out; clear KB; have KB := KBn; clear KBn; have HBn := below_step hb25.out HB; clear HB; have HB := HBn; clear HBn; clear hb))
          | (clear tk26; go_at_call 12; go_must (refine (kO.out _ 8 _ _ _).mono ?_; rintro e w26 ⟨rfl, hb⟩; have hb26 := Lib.hid (below_step (w := w25) hb (by repeat (first | exact Below.refl _ _ | refine Below.drew ?_ | refine below_allocS ?_ _))); have KBn := KB.below hb26.out; clear KB; have KB := KBn; clear KBn; have HBn := below_step hb26.out HB; clear HB; have HB := HBn; clear HBn; have hN26 := Lib.hid (rc4 8 (rc7.out.mono ((In.hp _).below HB)) (rb7.out.mono ((In.hp _).below HB)) (ra7.out.mono ((In.hp _).below HB)) (rb7.out.mono ((In.hp _).below HB)) ((Blk.new _ [.int .i64 kc, .string mc, .int .i64 vc.kind, .int .i64 vc.n, .string vc.text, .int .i64 loc, .int .i64 hic, .slice Lc nc cc, .int .i64 kb, .string mb, .int .i64 vb.kind, .int .i64 vb.n, .string vb.text, .int .i64 lob, .int .i64 hib, .slice Lb nb cb, .int .i64 ka, .string ma, .int .i64 va.kind, .int .i64 va.n, .string va.text, .int .i64 loa, .int .i64 hia, .slice La na ca, .int .i64 kb, .string mb, .int .i64 vb.kind, .int .i64 vb.n, .string vb.text, .int .i64 lob, .int .i64 hib, .slice Lb nb cb] _).below hb)); clear hb))
          | (clear tk27; go_at_call 10; go_must (refine (kP.out w26 _ _ _ _ qo (by repeat (first | exact Below.refl _ _ | refine Below.drew ?_ | refine below_allocS ?_ _)) (hI7.out.below HB) hN26.out pO4.out).mono ?_; rintro e w27 ⟨rfl, hb⟩; have hb27 := Lib.hid (below_step (w := w26) hb (by repeat (first | exact Below.refl _ _ | refine Below.drew ?_ | refine below_allocS ?_ _))); have KBn := KB.below hb27.out; clear KB; have KB := KBn; clear KBn; have HBn := below_step hb27.out HB; clear HB; have HB := HBn; clear HBn; clear hb))
          | (clear tk28; go_at_call 10; go_must (refine (kP.out W7 _ _ _ _ qo (by repeat (first | exact HB | refine Below.drew ?_ | refine below_allocS ?_ _)) hI7.out ror.out pO.out).mono ?_; rintro e w28 ⟨rfl, hb⟩; have hb28 := Lib.hid (below_step (w := w27) hb (by repeat (first | exact Below.refl _ _ | refine Below.drew ?_ | refine below_allocS ?_ _))); have KBn := KB.below hb28.out; clear KB; have KB := KBn; clear KBn; have HBn := below_step hb28.out HB; clear HB; have HB := HBn; clear HBn; clear hb))
          | (clear tk29; go_at_call 13; go_must (refine (kS.out W7 _ _ _ _ (IntKind.i64.wrap (IntKind.i64.wrap (IntKind.i64.wrap (1 + sa) + sb) + sc)) (by repeat (first | exact HB | refine Below.drew ?_ | refine below_allocS ?_ _)) rand.out sAnd.out).mono ?_; rintro e w29 ⟨rfl, hb⟩; have hb29 := Lib.hid (below_step (w := w28) hb (by repeat (first | exact Below.refl _ _ | refine Below.drew ?_ | refine below_allocS ?_ _))); have KBn := KB.below hb29.out; clear KB; have KB := KBn; clear KBn; have HBn := below_step hb29.out HB; clear HB; have HB := HBn; clear HBn; clear hb))
          | (clear tk30; go_at_call 13; go_must (refine (kS.out W7 _ _ _ _ sa (by repeat (first | exact HB | refine Below.drew ?_ | refine below_allocS ?_ _)) ra7.out hsa.out).mono ?_; rintro e w30 ⟨rfl, hb⟩; have hb30 := Lib.hid (below_step (w := w29) hb (by repeat (first | exact Below.refl _ _ | refine Below.drew ?_ | refine below_allocS ?_ _))); have KBn := KB.below hb30.out; clear KB; have KB := KBn; clear KBn; have HBn := below_step hb30.out HB; clear HB; have HB := HBn; clear HBn; clear hb))
          | (clear tk31; go_at_call 13; go_must (refine (kS.out W7 _ _ _ _ sb (by repeat (first | exact HB | refine Below.drew ?_ | refine below_allocS ?_ _)) rb7.out hsb.out).mono ?_; rintro e w31 ⟨rfl, hb⟩; have hb31 := Lib.hid (below_step (w := w30) hb (by repeat (first | exact Below.refl _ _ | refine Below.drew ?_ | refine below_allocS ?_ _))); have KBn := KB.below hb31.out; clear KB; have KB := KBn; clear KBn; have HBn := below_step hb31.out HB; clear HB; have HB := HBn; clear HBn; clear hb))
          | (clear tk32; go_at_call 13; go_must (refine (kS.out W7 _ _ _ _ sc (by repeat (first | exact HB | refine Below.drew ?_ | refine below_allocS ?_ _)) rc7.out hsc.out).mono ?_; rintro e w32 ⟨rfl, hb⟩; have hb32 := Lib.hid (below_step (w := w31) hb (by repeat (first | exact Below.refl _ _ | refine Below.drew ?_ | refine below_allocS ?_ _))); have KBn := KB.below hb32.out; clear KB; have KB := KBn; clear KBn; have HBn := below_step hb32.out HB; clear HB; have HB := HBn; clear HBn; clear hb))
          | (clear tk33; go_at_call 9; go_must (refine (sure_calls _).mono ?_; rintro e w33 ⟨rfl, hb⟩; have hb33 := Lib.hid (below_step (w := w32) hb (by repeat (first | exact Below.refl _ _ | refine Below.drew ?_ | refine below_allocS ?_ _))); have KBn := KB.below hb33.out; clear KB; have KB := KBn; clear KBn; have HBn := below_step hb33.out HB; clear HB; have HB := HBn; clear HBn; clear hb)))
        go_wp2
        go_ret
        exact ⟨rfl, below_step HB HB7'.out⟩
end Go.Proofs.YteoeahmfpohpeaaDoor
