/- ValueLine, the walk: how values and rows are ordered. Condition: utf8's two tables read as the program lays them. -/
import Derived.Test.YtafialodjnjihaaDoorEqRun
import Derived.Test.YtafialodjnjihaaDoorOpen
import Derived.Test.YtafialodjnjihaaDoorValueMay
namespace Go.Proofs.YtafialodjnjihaaDoor
open Go Go.RowKit Go.BigFrame
set_option maxRecDepth 100000
set_option linter.unusedVariables false

/-- Three boxes laid, one behind the other. -/
theorem three_boxes (w : World) (c1 c2 c3 : Array Value) : ∃ W, ((w.alloc (.cells c1 24)).alloc (.cells c2 24)).alloc (.cells c3 24) = W ∧ Below w.heap.size w W ∧ Whole1 W w.heap.size 24 c1 ∧ Whole1 W (w.heap.size + 1) 24 c2 ∧ Whole1 W (w.heap.size + 1 + 1) 24 c3 := by
  refine ⟨_, rfl, (below2 w _ _).alloc (by simp; omega) _, ((Whole1.made w 24 c1).alloc _).alloc _, ?_, ?_⟩
  · have := (Whole1.made (w.alloc (.cells c1 24)) 24 c2).alloc (.cells c3 24)
    rw [World.size_alloc] at this
    exact this
  · have := Whole1.made ((w.alloc (.cells c1 24)).alloc (.cells c2 24)) 24 c3
    rw [World.size_alloc, World.size_alloc] at this
    exact this
/-- What the three boxes and the three rows are in a world. -/
structure Here (w W : World) (x y z : Val) (a b c : Option Addr) (n m o : Nat) (l k j : List Val) : Prop where
  below : Below w.heap.size w W
  tabs : Tabs W
  b1 : Whole1 W w.heap.size 24 x.cells.toArray
  b2 : Whole1 W (w.heap.size + 1) 24 y.cells.toArray
  b3 : Whole1 W (w.heap.size + 1 + 1) 24 z.cells.toArray
  v1 : Vals W a n l
  v2 : Vals W b m k
  v3 : Vals W c o j
theorem Here.later {w W W' : World} {x y z : Val} {a b c : Option Addr} {n m o : Nat} {l k j : List Val} (h : Here w W x y z a b c n m o l k j) (hb : Below W.heap.size W W') : Here w W' x y z a b c n m o l k j :=
  ⟨Below.grown h.below (Only.below hb none) h.below.size (by simp), h.tabs.below hb, h.b1.below hb h.b1.lt, h.b2.below hb h.b2.lt, h.b3.below hb h.b3.lt, vals_below h.v1 hb, vals_below h.v2 hb, vals_below h.v3 hb⟩
/- What every call of the law answers is a premise of these walks. -/
set_option maxHeartbeats 4000000 in
theorem line_bad0 (kk k1 k2 : Nat) (ii i1 i2 : Int) (rr r1 r2 : Nat) (tt t1 t2 : ByteArray) (a b c : Option Addr) (n m o ca cb cc : Nat) (l k j : List Val) (w : World) (hT : Tabs w) (hv1 : Vals w a n l) (hv2 : Vals w b m k) (hv3 : Vals w c o j)
    (K1 : Box (∀ W, Tabs W → Calls Tryd.prog 14 #[.agg #[.int .u8 kk, .int .i64 ii, .int .u64 rr, .string tt]] W fun e w' => e = .returned (.int .i64 2) ∧ Below W.heap.size W w')) :
    Calls Tryd.prog 6 #[.agg #[.int .u8 kk, .int .i64 ii, .int .u64 rr, .string tt], .agg #[.int .u8 k1, .int .i64 i1, .int .u64 r1, .string t1], .agg #[.int .u8 k2, .int .i64 i2, .int .u64 r2, .string t2], .slice a n ca, .slice b m cb, .slice c o cc] w fun e w' => e = .returned (.bool true) ∧ Below w.heap.size w w' := by
  have HT := box hT
  have V1 := box hv1
  have V2 := box hv2
  have V3 := box hv3
  clear hT hv1 hv2 hv3
  go_enter Tryd.func6, Tryd.ntmps6
  go_wp2_with fail
  obtain ⟨W, hW, hb, P, Q, R⟩ := three_boxes w #[.int .u8 kk, .int .i64 ii, .int .u64 rr, .string tt] #[.int .u8 k1, .int .i64 i1, .int .u64 r1, .string t1] #[.int .u8 k2, .int .i64 i2, .int .u64 r2, .string t2]
  have H0 : Box (Here w W ⟨kk, ii, rr, tt⟩ ⟨k1, i1, r1, t1⟩ ⟨k2, i2, r2, t2⟩ a b c n m o l k j) := box ⟨hb, HT.out.below hb, P, Q, R, vals_below V1.out hb, vals_below V2.out hb, vals_below V3.out hb⟩
  rw [hW]
  clear hW hb P Q R
  refine (K1.out _ H0.out.tabs).mono ?_
  rintro e w1 ⟨rfl, hb⟩
  have H1 := box (H0.out.later hb)
  clear hb
  have p00 : w1.cell? ⟨w.heap.size, 0, none⟩ = some (.int .u8 kk) := H1.out.b1.cell 0
  have p01 : w1.cell? ⟨w.heap.size, 1, none⟩ = some (.int .i64 ii) := H1.out.b1.cell 1
  have p02 : w1.cell? ⟨w.heap.size, 2, none⟩ = some (.int .u64 rr) := H1.out.b1.cell 2
  have p03 : w1.cell? ⟨w.heap.size, 3, none⟩ = some (.string tt) := H1.out.b1.cell 3
  have p10 : w1.cell? ⟨w.heap.size + 1, 0, none⟩ = some (.int .u8 k1) := H1.out.b2.cell 0
  have p11 : w1.cell? ⟨w.heap.size + 1, 1, none⟩ = some (.int .i64 i1) := H1.out.b2.cell 1
  have p12 : w1.cell? ⟨w.heap.size + 1, 2, none⟩ = some (.int .u64 r1) := H1.out.b2.cell 2
  have p13 : w1.cell? ⟨w.heap.size + 1, 3, none⟩ = some (.string t1) := H1.out.b2.cell 3
  have p20 : w1.cell? ⟨w.heap.size + 1 + 1, 0, none⟩ = some (.int .u8 k2) := H1.out.b3.cell 0
  have p21 : w1.cell? ⟨w.heap.size + 1 + 1, 1, none⟩ = some (.int .i64 i2) := H1.out.b3.cell 1
  have p22 : w1.cell? ⟨w.heap.size + 1 + 1, 2, none⟩ = some (.int .u64 r2) := H1.out.b3.cell 2
  have p23 : w1.cell? ⟨w.heap.size + 1 + 1, 3, none⟩ = some (.string t2) := H1.out.b3.cell 3
  go_wp2_with fail
  refine (alive04 _ H1.out.tabs).mono ?_
  rintro e w2 ⟨rfl, hb⟩
  have H2 := box (H1.out.later hb)
  clear hb p00 p01 p02 p03 p10 p11 p12 p13 p20 p21 p22 p23
  go_wp2_with fail
  go_ret
  exact ⟨rfl, H2.out.below⟩

set_option maxHeartbeats 4000000 in
theorem line_bad1 (kk k1 k2 : Nat) (ii i1 i2 : Int) (rr r1 r2 : Nat) (tt t1 t2 : ByteArray) (a b c : Option Addr) (n m o ca cb cc : Nat) (l k j : List Val) (w : World) (hT : Tabs w) (hv1 : Vals w a n l) (hv2 : Vals w b m k) (hv3 : Vals w c o j)
    (K1 : Box (∀ W, Tabs W → Calls Tryd.prog 14 #[.agg #[.int .u8 kk, .int .i64 ii, .int .u64 rr, .string tt]] W fun e w' => e = .returned (.int .i64 0) ∧ Below W.heap.size W w')) (K2 : Box (∀ W, Tabs W → Calls Tryd.prog 14 #[.agg #[.int .u8 k1, .int .i64 i1, .int .u64 r1, .string t1]] W fun e w' => e = .returned (.int .i64 2) ∧ Below W.heap.size W w')) :
    Calls Tryd.prog 6 #[.agg #[.int .u8 kk, .int .i64 ii, .int .u64 rr, .string tt], .agg #[.int .u8 k1, .int .i64 i1, .int .u64 r1, .string t1], .agg #[.int .u8 k2, .int .i64 i2, .int .u64 r2, .string t2], .slice a n ca, .slice b m cb, .slice c o cc] w fun e w' => e = .returned (.bool true) ∧ Below w.heap.size w w' := by
  have HT := box hT
  have V1 := box hv1
  have V2 := box hv2
  have V3 := box hv3
  clear hT hv1 hv2 hv3
  go_enter Tryd.func6, Tryd.ntmps6
  go_wp2_with fail
  obtain ⟨W, hW, hb, P, Q, R⟩ := three_boxes w #[.int .u8 kk, .int .i64 ii, .int .u64 rr, .string tt] #[.int .u8 k1, .int .i64 i1, .int .u64 r1, .string t1] #[.int .u8 k2, .int .i64 i2, .int .u64 r2, .string t2]
  have H0 : Box (Here w W ⟨kk, ii, rr, tt⟩ ⟨k1, i1, r1, t1⟩ ⟨k2, i2, r2, t2⟩ a b c n m o l k j) := box ⟨hb, HT.out.below hb, P, Q, R, vals_below V1.out hb, vals_below V2.out hb, vals_below V3.out hb⟩
  rw [hW]
  clear hW hb P Q R
  refine (K1.out _ H0.out.tabs).mono ?_
  rintro e w1 ⟨rfl, hb⟩
  have H1 := box (H0.out.later hb)
  clear hb
  have p00 : w1.cell? ⟨w.heap.size, 0, none⟩ = some (.int .u8 kk) := H1.out.b1.cell 0
  have p01 : w1.cell? ⟨w.heap.size, 1, none⟩ = some (.int .i64 ii) := H1.out.b1.cell 1
  have p02 : w1.cell? ⟨w.heap.size, 2, none⟩ = some (.int .u64 rr) := H1.out.b1.cell 2
  have p03 : w1.cell? ⟨w.heap.size, 3, none⟩ = some (.string tt) := H1.out.b1.cell 3
  have p10 : w1.cell? ⟨w.heap.size + 1, 0, none⟩ = some (.int .u8 k1) := H1.out.b2.cell 0
  have p11 : w1.cell? ⟨w.heap.size + 1, 1, none⟩ = some (.int .i64 i1) := H1.out.b2.cell 1
  have p12 : w1.cell? ⟨w.heap.size + 1, 2, none⟩ = some (.int .u64 r1) := H1.out.b2.cell 2
  have p13 : w1.cell? ⟨w.heap.size + 1, 3, none⟩ = some (.string t1) := H1.out.b2.cell 3
  have p20 : w1.cell? ⟨w.heap.size + 1 + 1, 0, none⟩ = some (.int .u8 k2) := H1.out.b3.cell 0
  have p21 : w1.cell? ⟨w.heap.size + 1 + 1, 1, none⟩ = some (.int .i64 i2) := H1.out.b3.cell 1
  have p22 : w1.cell? ⟨w.heap.size + 1 + 1, 2, none⟩ = some (.int .u64 r2) := H1.out.b3.cell 2
  have p23 : w1.cell? ⟨w.heap.size + 1 + 1, 3, none⟩ = some (.string t2) := H1.out.b3.cell 3
  go_wp2_with fail
  refine (K2.out _ H1.out.tabs).mono ?_
  rintro e w2 ⟨rfl, hb⟩
  have H2 := box (H1.out.later hb)
  clear hb p00 p01 p02 p03 p10 p11 p12 p13 p20 p21 p22 p23
  have p00 : w2.cell? ⟨w.heap.size, 0, none⟩ = some (.int .u8 kk) := H2.out.b1.cell 0
  have p01 : w2.cell? ⟨w.heap.size, 1, none⟩ = some (.int .i64 ii) := H2.out.b1.cell 1
  have p02 : w2.cell? ⟨w.heap.size, 2, none⟩ = some (.int .u64 rr) := H2.out.b1.cell 2
  have p03 : w2.cell? ⟨w.heap.size, 3, none⟩ = some (.string tt) := H2.out.b1.cell 3
  have p10 : w2.cell? ⟨w.heap.size + 1, 0, none⟩ = some (.int .u8 k1) := H2.out.b2.cell 0
  have p11 : w2.cell? ⟨w.heap.size + 1, 1, none⟩ = some (.int .i64 i1) := H2.out.b2.cell 1
  have p12 : w2.cell? ⟨w.heap.size + 1, 2, none⟩ = some (.int .u64 r1) := H2.out.b2.cell 2
  have p13 : w2.cell? ⟨w.heap.size + 1, 3, none⟩ = some (.string t1) := H2.out.b2.cell 3
  have p20 : w2.cell? ⟨w.heap.size + 1 + 1, 0, none⟩ = some (.int .u8 k2) := H2.out.b3.cell 0
  have p21 : w2.cell? ⟨w.heap.size + 1 + 1, 1, none⟩ = some (.int .i64 i2) := H2.out.b3.cell 1
  have p22 : w2.cell? ⟨w.heap.size + 1 + 1, 2, none⟩ = some (.int .u64 r2) := H2.out.b3.cell 2
  have p23 : w2.cell? ⟨w.heap.size + 1 + 1, 3, none⟩ = some (.string t2) := H2.out.b3.cell 3
  go_wp2_with fail
  refine (alive04 _ H2.out.tabs).mono ?_
  rintro e w3 ⟨rfl, hb⟩
  have H3 := box (H2.out.later hb)
  clear hb p00 p01 p02 p03 p10 p11 p12 p13 p20 p21 p22 p23
  go_wp2_with fail
  go_ret
  exact ⟨rfl, H3.out.below⟩

set_option maxHeartbeats 4000000 in
theorem line_bad2 (kk k1 k2 : Nat) (ii i1 i2 : Int) (rr r1 r2 : Nat) (tt t1 t2 : ByteArray) (a b c : Option Addr) (n m o ca cb cc : Nat) (l k j : List Val) (w : World) (hT : Tabs w) (hv1 : Vals w a n l) (hv2 : Vals w b m k) (hv3 : Vals w c o j)
    (K1 : Box (∀ W, Tabs W → Calls Tryd.prog 14 #[.agg #[.int .u8 kk, .int .i64 ii, .int .u64 rr, .string tt]] W fun e w' => e = .returned (.int .i64 0) ∧ Below W.heap.size W w')) (K2 : Box (∀ W, Tabs W → Calls Tryd.prog 14 #[.agg #[.int .u8 k1, .int .i64 i1, .int .u64 r1, .string t1]] W fun e w' => e = .returned (.int .i64 0) ∧ Below W.heap.size W w')) (K3 : Box (∀ W, Tabs W → Calls Tryd.prog 14 #[.agg #[.int .u8 k2, .int .i64 i2, .int .u64 r2, .string t2]] W fun e w' => e = .returned (.int .i64 2) ∧ Below W.heap.size W w')) :
    Calls Tryd.prog 6 #[.agg #[.int .u8 kk, .int .i64 ii, .int .u64 rr, .string tt], .agg #[.int .u8 k1, .int .i64 i1, .int .u64 r1, .string t1], .agg #[.int .u8 k2, .int .i64 i2, .int .u64 r2, .string t2], .slice a n ca, .slice b m cb, .slice c o cc] w fun e w' => e = .returned (.bool true) ∧ Below w.heap.size w w' := by
  have HT := box hT
  have V1 := box hv1
  have V2 := box hv2
  have V3 := box hv3
  clear hT hv1 hv2 hv3
  go_enter Tryd.func6, Tryd.ntmps6
  go_wp2_with fail
  obtain ⟨W, hW, hb, P, Q, R⟩ := three_boxes w #[.int .u8 kk, .int .i64 ii, .int .u64 rr, .string tt] #[.int .u8 k1, .int .i64 i1, .int .u64 r1, .string t1] #[.int .u8 k2, .int .i64 i2, .int .u64 r2, .string t2]
  have H0 : Box (Here w W ⟨kk, ii, rr, tt⟩ ⟨k1, i1, r1, t1⟩ ⟨k2, i2, r2, t2⟩ a b c n m o l k j) := box ⟨hb, HT.out.below hb, P, Q, R, vals_below V1.out hb, vals_below V2.out hb, vals_below V3.out hb⟩
  rw [hW]
  clear hW hb P Q R
  refine (K1.out _ H0.out.tabs).mono ?_
  rintro e w1 ⟨rfl, hb⟩
  have H1 := box (H0.out.later hb)
  clear hb
  have p00 : w1.cell? ⟨w.heap.size, 0, none⟩ = some (.int .u8 kk) := H1.out.b1.cell 0
  have p01 : w1.cell? ⟨w.heap.size, 1, none⟩ = some (.int .i64 ii) := H1.out.b1.cell 1
  have p02 : w1.cell? ⟨w.heap.size, 2, none⟩ = some (.int .u64 rr) := H1.out.b1.cell 2
  have p03 : w1.cell? ⟨w.heap.size, 3, none⟩ = some (.string tt) := H1.out.b1.cell 3
  have p10 : w1.cell? ⟨w.heap.size + 1, 0, none⟩ = some (.int .u8 k1) := H1.out.b2.cell 0
  have p11 : w1.cell? ⟨w.heap.size + 1, 1, none⟩ = some (.int .i64 i1) := H1.out.b2.cell 1
  have p12 : w1.cell? ⟨w.heap.size + 1, 2, none⟩ = some (.int .u64 r1) := H1.out.b2.cell 2
  have p13 : w1.cell? ⟨w.heap.size + 1, 3, none⟩ = some (.string t1) := H1.out.b2.cell 3
  have p20 : w1.cell? ⟨w.heap.size + 1 + 1, 0, none⟩ = some (.int .u8 k2) := H1.out.b3.cell 0
  have p21 : w1.cell? ⟨w.heap.size + 1 + 1, 1, none⟩ = some (.int .i64 i2) := H1.out.b3.cell 1
  have p22 : w1.cell? ⟨w.heap.size + 1 + 1, 2, none⟩ = some (.int .u64 r2) := H1.out.b3.cell 2
  have p23 : w1.cell? ⟨w.heap.size + 1 + 1, 3, none⟩ = some (.string t2) := H1.out.b3.cell 3
  go_wp2_with fail
  refine (K2.out _ H1.out.tabs).mono ?_
  rintro e w2 ⟨rfl, hb⟩
  have H2 := box (H1.out.later hb)
  clear hb p00 p01 p02 p03 p10 p11 p12 p13 p20 p21 p22 p23
  have p00 : w2.cell? ⟨w.heap.size, 0, none⟩ = some (.int .u8 kk) := H2.out.b1.cell 0
  have p01 : w2.cell? ⟨w.heap.size, 1, none⟩ = some (.int .i64 ii) := H2.out.b1.cell 1
  have p02 : w2.cell? ⟨w.heap.size, 2, none⟩ = some (.int .u64 rr) := H2.out.b1.cell 2
  have p03 : w2.cell? ⟨w.heap.size, 3, none⟩ = some (.string tt) := H2.out.b1.cell 3
  have p10 : w2.cell? ⟨w.heap.size + 1, 0, none⟩ = some (.int .u8 k1) := H2.out.b2.cell 0
  have p11 : w2.cell? ⟨w.heap.size + 1, 1, none⟩ = some (.int .i64 i1) := H2.out.b2.cell 1
  have p12 : w2.cell? ⟨w.heap.size + 1, 2, none⟩ = some (.int .u64 r1) := H2.out.b2.cell 2
  have p13 : w2.cell? ⟨w.heap.size + 1, 3, none⟩ = some (.string t1) := H2.out.b2.cell 3
  have p20 : w2.cell? ⟨w.heap.size + 1 + 1, 0, none⟩ = some (.int .u8 k2) := H2.out.b3.cell 0
  have p21 : w2.cell? ⟨w.heap.size + 1 + 1, 1, none⟩ = some (.int .i64 i2) := H2.out.b3.cell 1
  have p22 : w2.cell? ⟨w.heap.size + 1 + 1, 2, none⟩ = some (.int .u64 r2) := H2.out.b3.cell 2
  have p23 : w2.cell? ⟨w.heap.size + 1 + 1, 3, none⟩ = some (.string t2) := H2.out.b3.cell 3
  go_wp2_with fail
  refine (K3.out _ H2.out.tabs).mono ?_
  rintro e w3 ⟨rfl, hb⟩
  have H3 := box (H2.out.later hb)
  clear hb p00 p01 p02 p03 p10 p11 p12 p13 p20 p21 p22 p23
  go_wp2_with fail
  refine (alive04 _ H3.out.tabs).mono ?_
  rintro e w4 ⟨rfl, hb⟩
  have H4 := box (H3.out.later hb)
  clear hb
  go_wp2_with fail
  go_ret
  exact ⟨rfl, H4.out.below⟩

set_option maxHeartbeats 4000000 in
theorem line_bad3 (kk k1 k2 : Nat) (ii i1 i2 : Int) (rr r1 r2 : Nat) (tt t1 t2 : ByteArray) (a b c : Option Addr) (n m o ca cb cc : Nat) (l k j : List Val) (w : World) (hT : Tabs w) (hv1 : Vals w a n l) (hv2 : Vals w b m k) (hv3 : Vals w c o j)
    (K1 : Box (∀ W, Tabs W → Calls Tryd.prog 14 #[.agg #[.int .u8 kk, .int .i64 ii, .int .u64 rr, .string tt]] W fun e w' => e = .returned (.int .i64 0) ∧ Below W.heap.size W w')) (K2 : Box (∀ W, Tabs W → Calls Tryd.prog 14 #[.agg #[.int .u8 k1, .int .i64 i1, .int .u64 r1, .string t1]] W fun e w' => e = .returned (.int .i64 0) ∧ Below W.heap.size W w')) (K3 : Box (∀ W, Tabs W → Calls Tryd.prog 14 #[.agg #[.int .u8 k2, .int .i64 i2, .int .u64 r2, .string t2]] W fun e w' => e = .returned (.int .i64 0) ∧ Below W.heap.size W w')) (R1 : Box (∀ W, Vals W a n l → Tabs W → Calls Tryd.prog 16 #[.slice a n ca] W fun e w' => e = .returned (.int .i64 2) ∧ Below W.heap.size W w')) :
    Calls Tryd.prog 6 #[.agg #[.int .u8 kk, .int .i64 ii, .int .u64 rr, .string tt], .agg #[.int .u8 k1, .int .i64 i1, .int .u64 r1, .string t1], .agg #[.int .u8 k2, .int .i64 i2, .int .u64 r2, .string t2], .slice a n ca, .slice b m cb, .slice c o cc] w fun e w' => e = .returned (.bool true) ∧ Below w.heap.size w w' := by
  have HT := box hT
  have V1 := box hv1
  have V2 := box hv2
  have V3 := box hv3
  clear hT hv1 hv2 hv3
  go_enter Tryd.func6, Tryd.ntmps6
  go_wp2_with fail
  obtain ⟨W, hW, hb, P, Q, R⟩ := three_boxes w #[.int .u8 kk, .int .i64 ii, .int .u64 rr, .string tt] #[.int .u8 k1, .int .i64 i1, .int .u64 r1, .string t1] #[.int .u8 k2, .int .i64 i2, .int .u64 r2, .string t2]
  have H0 : Box (Here w W ⟨kk, ii, rr, tt⟩ ⟨k1, i1, r1, t1⟩ ⟨k2, i2, r2, t2⟩ a b c n m o l k j) := box ⟨hb, HT.out.below hb, P, Q, R, vals_below V1.out hb, vals_below V2.out hb, vals_below V3.out hb⟩
  rw [hW]
  clear hW hb P Q R
  refine (K1.out _ H0.out.tabs).mono ?_
  rintro e w1 ⟨rfl, hb⟩
  have H1 := box (H0.out.later hb)
  clear hb
  have p00 : w1.cell? ⟨w.heap.size, 0, none⟩ = some (.int .u8 kk) := H1.out.b1.cell 0
  have p01 : w1.cell? ⟨w.heap.size, 1, none⟩ = some (.int .i64 ii) := H1.out.b1.cell 1
  have p02 : w1.cell? ⟨w.heap.size, 2, none⟩ = some (.int .u64 rr) := H1.out.b1.cell 2
  have p03 : w1.cell? ⟨w.heap.size, 3, none⟩ = some (.string tt) := H1.out.b1.cell 3
  have p10 : w1.cell? ⟨w.heap.size + 1, 0, none⟩ = some (.int .u8 k1) := H1.out.b2.cell 0
  have p11 : w1.cell? ⟨w.heap.size + 1, 1, none⟩ = some (.int .i64 i1) := H1.out.b2.cell 1
  have p12 : w1.cell? ⟨w.heap.size + 1, 2, none⟩ = some (.int .u64 r1) := H1.out.b2.cell 2
  have p13 : w1.cell? ⟨w.heap.size + 1, 3, none⟩ = some (.string t1) := H1.out.b2.cell 3
  have p20 : w1.cell? ⟨w.heap.size + 1 + 1, 0, none⟩ = some (.int .u8 k2) := H1.out.b3.cell 0
  have p21 : w1.cell? ⟨w.heap.size + 1 + 1, 1, none⟩ = some (.int .i64 i2) := H1.out.b3.cell 1
  have p22 : w1.cell? ⟨w.heap.size + 1 + 1, 2, none⟩ = some (.int .u64 r2) := H1.out.b3.cell 2
  have p23 : w1.cell? ⟨w.heap.size + 1 + 1, 3, none⟩ = some (.string t2) := H1.out.b3.cell 3
  go_wp2_with fail
  refine (K2.out _ H1.out.tabs).mono ?_
  rintro e w2 ⟨rfl, hb⟩
  have H2 := box (H1.out.later hb)
  clear hb p00 p01 p02 p03 p10 p11 p12 p13 p20 p21 p22 p23
  have p00 : w2.cell? ⟨w.heap.size, 0, none⟩ = some (.int .u8 kk) := H2.out.b1.cell 0
  have p01 : w2.cell? ⟨w.heap.size, 1, none⟩ = some (.int .i64 ii) := H2.out.b1.cell 1
  have p02 : w2.cell? ⟨w.heap.size, 2, none⟩ = some (.int .u64 rr) := H2.out.b1.cell 2
  have p03 : w2.cell? ⟨w.heap.size, 3, none⟩ = some (.string tt) := H2.out.b1.cell 3
  have p10 : w2.cell? ⟨w.heap.size + 1, 0, none⟩ = some (.int .u8 k1) := H2.out.b2.cell 0
  have p11 : w2.cell? ⟨w.heap.size + 1, 1, none⟩ = some (.int .i64 i1) := H2.out.b2.cell 1
  have p12 : w2.cell? ⟨w.heap.size + 1, 2, none⟩ = some (.int .u64 r1) := H2.out.b2.cell 2
  have p13 : w2.cell? ⟨w.heap.size + 1, 3, none⟩ = some (.string t1) := H2.out.b2.cell 3
  have p20 : w2.cell? ⟨w.heap.size + 1 + 1, 0, none⟩ = some (.int .u8 k2) := H2.out.b3.cell 0
  have p21 : w2.cell? ⟨w.heap.size + 1 + 1, 1, none⟩ = some (.int .i64 i2) := H2.out.b3.cell 1
  have p22 : w2.cell? ⟨w.heap.size + 1 + 1, 2, none⟩ = some (.int .u64 r2) := H2.out.b3.cell 2
  have p23 : w2.cell? ⟨w.heap.size + 1 + 1, 3, none⟩ = some (.string t2) := H2.out.b3.cell 3
  go_wp2_with fail
  refine (K3.out _ H2.out.tabs).mono ?_
  rintro e w3 ⟨rfl, hb⟩
  have H3 := box (H2.out.later hb)
  clear hb p00 p01 p02 p03 p10 p11 p12 p13 p20 p21 p22 p23
  go_wp2_with fail
  refine (R1.out _ H3.out.v1 H3.out.tabs).mono ?_
  rintro e w4 ⟨rfl, hb⟩
  have H4 := box (H3.out.later hb)
  clear hb
  go_wp2_with fail
  refine (alive04 _ H4.out.tabs).mono ?_
  rintro e w5 ⟨rfl, hb⟩
  have H5 := box (H4.out.later hb)
  clear hb
  go_wp2_with fail
  go_ret
  exact ⟨rfl, H5.out.below⟩

set_option maxHeartbeats 4000000 in
theorem line_bad4 (kk k1 k2 : Nat) (ii i1 i2 : Int) (rr r1 r2 : Nat) (tt t1 t2 : ByteArray) (a b c : Option Addr) (n m o ca cb cc : Nat) (l k j : List Val) (w : World) (hT : Tabs w) (hv1 : Vals w a n l) (hv2 : Vals w b m k) (hv3 : Vals w c o j)
    (K1 : Box (∀ W, Tabs W → Calls Tryd.prog 14 #[.agg #[.int .u8 kk, .int .i64 ii, .int .u64 rr, .string tt]] W fun e w' => e = .returned (.int .i64 0) ∧ Below W.heap.size W w')) (K2 : Box (∀ W, Tabs W → Calls Tryd.prog 14 #[.agg #[.int .u8 k1, .int .i64 i1, .int .u64 r1, .string t1]] W fun e w' => e = .returned (.int .i64 0) ∧ Below W.heap.size W w')) (K3 : Box (∀ W, Tabs W → Calls Tryd.prog 14 #[.agg #[.int .u8 k2, .int .i64 i2, .int .u64 r2, .string t2]] W fun e w' => e = .returned (.int .i64 0) ∧ Below W.heap.size W w')) (R1 : Box (∀ W, Vals W a n l → Tabs W → Calls Tryd.prog 16 #[.slice a n ca] W fun e w' => e = .returned (.int .i64 0) ∧ Below W.heap.size W w')) (R2 : Box (∀ W, Vals W b m k → Tabs W → Calls Tryd.prog 16 #[.slice b m cb] W fun e w' => e = .returned (.int .i64 2) ∧ Below W.heap.size W w')) :
    Calls Tryd.prog 6 #[.agg #[.int .u8 kk, .int .i64 ii, .int .u64 rr, .string tt], .agg #[.int .u8 k1, .int .i64 i1, .int .u64 r1, .string t1], .agg #[.int .u8 k2, .int .i64 i2, .int .u64 r2, .string t2], .slice a n ca, .slice b m cb, .slice c o cc] w fun e w' => e = .returned (.bool true) ∧ Below w.heap.size w w' := by
  have HT := box hT
  have V1 := box hv1
  have V2 := box hv2
  have V3 := box hv3
  clear hT hv1 hv2 hv3
  go_enter Tryd.func6, Tryd.ntmps6
  go_wp2_with fail
  obtain ⟨W, hW, hb, P, Q, R⟩ := three_boxes w #[.int .u8 kk, .int .i64 ii, .int .u64 rr, .string tt] #[.int .u8 k1, .int .i64 i1, .int .u64 r1, .string t1] #[.int .u8 k2, .int .i64 i2, .int .u64 r2, .string t2]
  have H0 : Box (Here w W ⟨kk, ii, rr, tt⟩ ⟨k1, i1, r1, t1⟩ ⟨k2, i2, r2, t2⟩ a b c n m o l k j) := box ⟨hb, HT.out.below hb, P, Q, R, vals_below V1.out hb, vals_below V2.out hb, vals_below V3.out hb⟩
  rw [hW]
  clear hW hb P Q R
  refine (K1.out _ H0.out.tabs).mono ?_
  rintro e w1 ⟨rfl, hb⟩
  have H1 := box (H0.out.later hb)
  clear hb
  have p00 : w1.cell? ⟨w.heap.size, 0, none⟩ = some (.int .u8 kk) := H1.out.b1.cell 0
  have p01 : w1.cell? ⟨w.heap.size, 1, none⟩ = some (.int .i64 ii) := H1.out.b1.cell 1
  have p02 : w1.cell? ⟨w.heap.size, 2, none⟩ = some (.int .u64 rr) := H1.out.b1.cell 2
  have p03 : w1.cell? ⟨w.heap.size, 3, none⟩ = some (.string tt) := H1.out.b1.cell 3
  have p10 : w1.cell? ⟨w.heap.size + 1, 0, none⟩ = some (.int .u8 k1) := H1.out.b2.cell 0
  have p11 : w1.cell? ⟨w.heap.size + 1, 1, none⟩ = some (.int .i64 i1) := H1.out.b2.cell 1
  have p12 : w1.cell? ⟨w.heap.size + 1, 2, none⟩ = some (.int .u64 r1) := H1.out.b2.cell 2
  have p13 : w1.cell? ⟨w.heap.size + 1, 3, none⟩ = some (.string t1) := H1.out.b2.cell 3
  have p20 : w1.cell? ⟨w.heap.size + 1 + 1, 0, none⟩ = some (.int .u8 k2) := H1.out.b3.cell 0
  have p21 : w1.cell? ⟨w.heap.size + 1 + 1, 1, none⟩ = some (.int .i64 i2) := H1.out.b3.cell 1
  have p22 : w1.cell? ⟨w.heap.size + 1 + 1, 2, none⟩ = some (.int .u64 r2) := H1.out.b3.cell 2
  have p23 : w1.cell? ⟨w.heap.size + 1 + 1, 3, none⟩ = some (.string t2) := H1.out.b3.cell 3
  go_wp2_with fail
  refine (K2.out _ H1.out.tabs).mono ?_
  rintro e w2 ⟨rfl, hb⟩
  have H2 := box (H1.out.later hb)
  clear hb p00 p01 p02 p03 p10 p11 p12 p13 p20 p21 p22 p23
  have p00 : w2.cell? ⟨w.heap.size, 0, none⟩ = some (.int .u8 kk) := H2.out.b1.cell 0
  have p01 : w2.cell? ⟨w.heap.size, 1, none⟩ = some (.int .i64 ii) := H2.out.b1.cell 1
  have p02 : w2.cell? ⟨w.heap.size, 2, none⟩ = some (.int .u64 rr) := H2.out.b1.cell 2
  have p03 : w2.cell? ⟨w.heap.size, 3, none⟩ = some (.string tt) := H2.out.b1.cell 3
  have p10 : w2.cell? ⟨w.heap.size + 1, 0, none⟩ = some (.int .u8 k1) := H2.out.b2.cell 0
  have p11 : w2.cell? ⟨w.heap.size + 1, 1, none⟩ = some (.int .i64 i1) := H2.out.b2.cell 1
  have p12 : w2.cell? ⟨w.heap.size + 1, 2, none⟩ = some (.int .u64 r1) := H2.out.b2.cell 2
  have p13 : w2.cell? ⟨w.heap.size + 1, 3, none⟩ = some (.string t1) := H2.out.b2.cell 3
  have p20 : w2.cell? ⟨w.heap.size + 1 + 1, 0, none⟩ = some (.int .u8 k2) := H2.out.b3.cell 0
  have p21 : w2.cell? ⟨w.heap.size + 1 + 1, 1, none⟩ = some (.int .i64 i2) := H2.out.b3.cell 1
  have p22 : w2.cell? ⟨w.heap.size + 1 + 1, 2, none⟩ = some (.int .u64 r2) := H2.out.b3.cell 2
  have p23 : w2.cell? ⟨w.heap.size + 1 + 1, 3, none⟩ = some (.string t2) := H2.out.b3.cell 3
  go_wp2_with fail
  refine (K3.out _ H2.out.tabs).mono ?_
  rintro e w3 ⟨rfl, hb⟩
  have H3 := box (H2.out.later hb)
  clear hb p00 p01 p02 p03 p10 p11 p12 p13 p20 p21 p22 p23
  go_wp2_with fail
  refine (R1.out _ H3.out.v1 H3.out.tabs).mono ?_
  rintro e w4 ⟨rfl, hb⟩
  have H4 := box (H3.out.later hb)
  clear hb
  go_wp2_with fail
  refine (R2.out _ H4.out.v2 H4.out.tabs).mono ?_
  rintro e w5 ⟨rfl, hb⟩
  have H5 := box (H4.out.later hb)
  clear hb
  go_wp2_with fail
  refine (alive04 _ H5.out.tabs).mono ?_
  rintro e w6 ⟨rfl, hb⟩
  have H6 := box (H5.out.later hb)
  clear hb
  go_wp2_with fail
  go_ret
  exact ⟨rfl, H6.out.below⟩

set_option maxHeartbeats 4000000 in
theorem line_bad5 (kk k1 k2 : Nat) (ii i1 i2 : Int) (rr r1 r2 : Nat) (tt t1 t2 : ByteArray) (a b c : Option Addr) (n m o ca cb cc : Nat) (l k j : List Val) (w : World) (hT : Tabs w) (hv1 : Vals w a n l) (hv2 : Vals w b m k) (hv3 : Vals w c o j)
    (K1 : Box (∀ W, Tabs W → Calls Tryd.prog 14 #[.agg #[.int .u8 kk, .int .i64 ii, .int .u64 rr, .string tt]] W fun e w' => e = .returned (.int .i64 0) ∧ Below W.heap.size W w')) (K2 : Box (∀ W, Tabs W → Calls Tryd.prog 14 #[.agg #[.int .u8 k1, .int .i64 i1, .int .u64 r1, .string t1]] W fun e w' => e = .returned (.int .i64 0) ∧ Below W.heap.size W w')) (K3 : Box (∀ W, Tabs W → Calls Tryd.prog 14 #[.agg #[.int .u8 k2, .int .i64 i2, .int .u64 r2, .string t2]] W fun e w' => e = .returned (.int .i64 0) ∧ Below W.heap.size W w')) (R1 : Box (∀ W, Vals W a n l → Tabs W → Calls Tryd.prog 16 #[.slice a n ca] W fun e w' => e = .returned (.int .i64 0) ∧ Below W.heap.size W w')) (R2 : Box (∀ W, Vals W b m k → Tabs W → Calls Tryd.prog 16 #[.slice b m cb] W fun e w' => e = .returned (.int .i64 0) ∧ Below W.heap.size W w')) (R3 : Box (∀ W, Vals W c o j → Tabs W → Calls Tryd.prog 16 #[.slice c o cc] W fun e w' => e = .returned (.int .i64 2) ∧ Below W.heap.size W w')) :
    Calls Tryd.prog 6 #[.agg #[.int .u8 kk, .int .i64 ii, .int .u64 rr, .string tt], .agg #[.int .u8 k1, .int .i64 i1, .int .u64 r1, .string t1], .agg #[.int .u8 k2, .int .i64 i2, .int .u64 r2, .string t2], .slice a n ca, .slice b m cb, .slice c o cc] w fun e w' => e = .returned (.bool true) ∧ Below w.heap.size w w' := by
  have HT := box hT
  have V1 := box hv1
  have V2 := box hv2
  have V3 := box hv3
  clear hT hv1 hv2 hv3
  go_enter Tryd.func6, Tryd.ntmps6
  go_wp2_with fail
  obtain ⟨W, hW, hb, P, Q, R⟩ := three_boxes w #[.int .u8 kk, .int .i64 ii, .int .u64 rr, .string tt] #[.int .u8 k1, .int .i64 i1, .int .u64 r1, .string t1] #[.int .u8 k2, .int .i64 i2, .int .u64 r2, .string t2]
  have H0 : Box (Here w W ⟨kk, ii, rr, tt⟩ ⟨k1, i1, r1, t1⟩ ⟨k2, i2, r2, t2⟩ a b c n m o l k j) := box ⟨hb, HT.out.below hb, P, Q, R, vals_below V1.out hb, vals_below V2.out hb, vals_below V3.out hb⟩
  rw [hW]
  clear hW hb P Q R
  refine (K1.out _ H0.out.tabs).mono ?_
  rintro e w1 ⟨rfl, hb⟩
  have H1 := box (H0.out.later hb)
  clear hb
  have p00 : w1.cell? ⟨w.heap.size, 0, none⟩ = some (.int .u8 kk) := H1.out.b1.cell 0
  have p01 : w1.cell? ⟨w.heap.size, 1, none⟩ = some (.int .i64 ii) := H1.out.b1.cell 1
  have p02 : w1.cell? ⟨w.heap.size, 2, none⟩ = some (.int .u64 rr) := H1.out.b1.cell 2
  have p03 : w1.cell? ⟨w.heap.size, 3, none⟩ = some (.string tt) := H1.out.b1.cell 3
  have p10 : w1.cell? ⟨w.heap.size + 1, 0, none⟩ = some (.int .u8 k1) := H1.out.b2.cell 0
  have p11 : w1.cell? ⟨w.heap.size + 1, 1, none⟩ = some (.int .i64 i1) := H1.out.b2.cell 1
  have p12 : w1.cell? ⟨w.heap.size + 1, 2, none⟩ = some (.int .u64 r1) := H1.out.b2.cell 2
  have p13 : w1.cell? ⟨w.heap.size + 1, 3, none⟩ = some (.string t1) := H1.out.b2.cell 3
  have p20 : w1.cell? ⟨w.heap.size + 1 + 1, 0, none⟩ = some (.int .u8 k2) := H1.out.b3.cell 0
  have p21 : w1.cell? ⟨w.heap.size + 1 + 1, 1, none⟩ = some (.int .i64 i2) := H1.out.b3.cell 1
  have p22 : w1.cell? ⟨w.heap.size + 1 + 1, 2, none⟩ = some (.int .u64 r2) := H1.out.b3.cell 2
  have p23 : w1.cell? ⟨w.heap.size + 1 + 1, 3, none⟩ = some (.string t2) := H1.out.b3.cell 3
  go_wp2_with fail
  refine (K2.out _ H1.out.tabs).mono ?_
  rintro e w2 ⟨rfl, hb⟩
  have H2 := box (H1.out.later hb)
  clear hb p00 p01 p02 p03 p10 p11 p12 p13 p20 p21 p22 p23
  have p00 : w2.cell? ⟨w.heap.size, 0, none⟩ = some (.int .u8 kk) := H2.out.b1.cell 0
  have p01 : w2.cell? ⟨w.heap.size, 1, none⟩ = some (.int .i64 ii) := H2.out.b1.cell 1
  have p02 : w2.cell? ⟨w.heap.size, 2, none⟩ = some (.int .u64 rr) := H2.out.b1.cell 2
  have p03 : w2.cell? ⟨w.heap.size, 3, none⟩ = some (.string tt) := H2.out.b1.cell 3
  have p10 : w2.cell? ⟨w.heap.size + 1, 0, none⟩ = some (.int .u8 k1) := H2.out.b2.cell 0
  have p11 : w2.cell? ⟨w.heap.size + 1, 1, none⟩ = some (.int .i64 i1) := H2.out.b2.cell 1
  have p12 : w2.cell? ⟨w.heap.size + 1, 2, none⟩ = some (.int .u64 r1) := H2.out.b2.cell 2
  have p13 : w2.cell? ⟨w.heap.size + 1, 3, none⟩ = some (.string t1) := H2.out.b2.cell 3
  have p20 : w2.cell? ⟨w.heap.size + 1 + 1, 0, none⟩ = some (.int .u8 k2) := H2.out.b3.cell 0
  have p21 : w2.cell? ⟨w.heap.size + 1 + 1, 1, none⟩ = some (.int .i64 i2) := H2.out.b3.cell 1
  have p22 : w2.cell? ⟨w.heap.size + 1 + 1, 2, none⟩ = some (.int .u64 r2) := H2.out.b3.cell 2
  have p23 : w2.cell? ⟨w.heap.size + 1 + 1, 3, none⟩ = some (.string t2) := H2.out.b3.cell 3
  go_wp2_with fail
  refine (K3.out _ H2.out.tabs).mono ?_
  rintro e w3 ⟨rfl, hb⟩
  have H3 := box (H2.out.later hb)
  clear hb p00 p01 p02 p03 p10 p11 p12 p13 p20 p21 p22 p23
  go_wp2_with fail
  refine (R1.out _ H3.out.v1 H3.out.tabs).mono ?_
  rintro e w4 ⟨rfl, hb⟩
  have H4 := box (H3.out.later hb)
  clear hb
  go_wp2_with fail
  refine (R2.out _ H4.out.v2 H4.out.tabs).mono ?_
  rintro e w5 ⟨rfl, hb⟩
  have H5 := box (H4.out.later hb)
  clear hb
  go_wp2_with fail
  refine (R3.out _ H5.out.v3 H5.out.tabs).mono ?_
  rintro e w6 ⟨rfl, hb⟩
  have H6 := box (H5.out.later hb)
  clear hb
  go_wp2_with fail
  refine (alive04 _ H6.out.tabs).mono ?_
  rintro e w7 ⟨rfl, hb⟩
  have H7 := box (H6.out.later hb)
  clear hb
  go_wp2_with fail
  go_ret
  exact ⟨rfl, H7.out.below⟩

set_option maxHeartbeats 8000000 in
theorem line_main_aa (kk k1 k2 : Nat) (ii i1 i2 : Int) (rr r1 r2 : Nat) (tt t1 t2 : ByteArray) (a b c : Option Addr) (n m o ca cb cc : Nat) (l k j : List Val) (w : World) (hT : Tabs w) (hv1 : Vals w a n l) (hv2 : Vals w b m k) (hv3 : Vals w c o j)
    (K1 : Box (∀ W, Tabs W → Calls Tryd.prog 14 #[.agg #[.int .u8 kk, .int .i64 ii, .int .u64 rr, .string tt]] W fun e w' => e = .returned (.int .i64 0) ∧ Below W.heap.size W w')) (K2 : Box (∀ W, Tabs W → Calls Tryd.prog 14 #[.agg #[.int .u8 k1, .int .i64 i1, .int .u64 r1, .string t1]] W fun e w' => e = .returned (.int .i64 0) ∧ Below W.heap.size W w')) (K3 : Box (∀ W, Tabs W → Calls Tryd.prog 14 #[.agg #[.int .u8 k2, .int .i64 i2, .int .u64 r2, .string t2]] W fun e w' => e = .returned (.int .i64 0) ∧ Below W.heap.size W w')) (R1 : Box (∀ W, Vals W a n l → Tabs W → Calls Tryd.prog 16 #[.slice a n ca] W fun e w' => e = .returned (.int .i64 0) ∧ Below W.heap.size W w')) (R2 : Box (∀ W, Vals W b m k → Tabs W → Calls Tryd.prog 16 #[.slice b m cb] W fun e w' => e = .returned (.int .i64 0) ∧ Below W.heap.size W w')) (R3 : Box (∀ W, Vals W c o j → Tabs W → Calls Tryd.prog 16 #[.slice c o cc] W fun e w' => e = .returned (.int .i64 0) ∧ Below W.heap.size W w'))
    (L12 : Box (∀ W, Calls Tryd.prog 28 #[.agg #[.int .u8 kk, .int .i64 ii, .int .u64 rr, .string tt], .agg #[.int .u8 k1, .int .i64 i1, .int .u64 r1, .string t1]] W fun e w' => e = .returned (.bool true) ∧ Below W.heap.size W w')) (L21 : Box (∀ W, Calls Tryd.prog 28 #[.agg #[.int .u8 k1, .int .i64 i1, .int .u64 r1, .string t1], .agg #[.int .u8 kk, .int .i64 ii, .int .u64 rr, .string tt]] W fun e w' => e = .returned (.bool false) ∧ Below W.heap.size W w')) (EQ : ∀ w, (Op.equalIn 10000 24 (.agg #[.int .u8 kk, .int .i64 ii, .int .u64 rr, .string tt]) (.agg #[.int .u8 k1, .int .i64 i1, .int .u64 r1, .string t1])).run Tryd.prog w = .ok false w) (L23 : Box (∀ W, Calls Tryd.prog 28 #[.agg #[.int .u8 k1, .int .i64 i1, .int .u64 r1, .string t1], .agg #[.int .u8 k2, .int .i64 i2, .int .u64 r2, .string t2]] W fun e w' => e = .returned (.bool false) ∧ Below W.heap.size W w'))
    (P12 : Box (∀ W, Vals W a n l → Vals W b m k → Calls Tryd.prog 30 #[.slice a n ca, .slice b m cb] W fun e w' => e = .returned (.bool true) ∧ Below W.heap.size W w')) (P21 : Box (∀ W, Vals W b m k → Vals W a n l → Calls Tryd.prog 30 #[.slice b m cb, .slice a n ca] W fun e w' => e = .returned (.bool false) ∧ Below W.heap.size W w')) (S12 : Box (∀ W, Vals W a n l → Vals W b m k → Calls Tryd.prog 31 #[.slice a n ca, .slice b m cb] W fun e w' => e = .returned (.bool false) ∧ Below W.heap.size W w')) (P23 : Box (∀ W, Vals W b m k → Vals W c o j → Calls Tryd.prog 30 #[.slice b m cb, .slice c o cc] W fun e w' => e = .returned (.bool false) ∧ Below W.heap.size W w')) :
    Calls Tryd.prog 6 #[.agg #[.int .u8 kk, .int .i64 ii, .int .u64 rr, .string tt], .agg #[.int .u8 k1, .int .i64 i1, .int .u64 r1, .string t1], .agg #[.int .u8 k2, .int .i64 i2, .int .u64 r2, .string t2], .slice a n ca, .slice b m cb, .slice c o cc] w fun e w' => e = .returned (.bool true) ∧ Below w.heap.size w w' := by
  have HT := box hT
  have V1 := box hv1
  have V2 := box hv2
  have V3 := box hv3
  clear hT hv1 hv2 hv3
  go_enter Tryd.func6, Tryd.ntmps6
  go_wp2_with fail
  obtain ⟨W, hW, hb, P, Q, R⟩ := three_boxes w #[.int .u8 kk, .int .i64 ii, .int .u64 rr, .string tt] #[.int .u8 k1, .int .i64 i1, .int .u64 r1, .string t1] #[.int .u8 k2, .int .i64 i2, .int .u64 r2, .string t2]
  have H0 : Box (Here w W ⟨kk, ii, rr, tt⟩ ⟨k1, i1, r1, t1⟩ ⟨k2, i2, r2, t2⟩ a b c n m o l k j) := box ⟨hb, HT.out.below hb, P, Q, R, vals_below V1.out hb, vals_below V2.out hb, vals_below V3.out hb⟩
  rw [hW]
  clear hW hb P Q R
  refine (K1.out _ H0.out.tabs).mono ?_
  rintro e w1 ⟨rfl, hb⟩
  have H1 := box (H0.out.later hb)
  clear hb
  have p00 : w1.cell? ⟨w.heap.size, 0, none⟩ = some (.int .u8 kk) := H1.out.b1.cell 0
  have p01 : w1.cell? ⟨w.heap.size, 1, none⟩ = some (.int .i64 ii) := H1.out.b1.cell 1
  have p02 : w1.cell? ⟨w.heap.size, 2, none⟩ = some (.int .u64 rr) := H1.out.b1.cell 2
  have p03 : w1.cell? ⟨w.heap.size, 3, none⟩ = some (.string tt) := H1.out.b1.cell 3
  have p10 : w1.cell? ⟨w.heap.size + 1, 0, none⟩ = some (.int .u8 k1) := H1.out.b2.cell 0
  have p11 : w1.cell? ⟨w.heap.size + 1, 1, none⟩ = some (.int .i64 i1) := H1.out.b2.cell 1
  have p12 : w1.cell? ⟨w.heap.size + 1, 2, none⟩ = some (.int .u64 r1) := H1.out.b2.cell 2
  have p13 : w1.cell? ⟨w.heap.size + 1, 3, none⟩ = some (.string t1) := H1.out.b2.cell 3
  have p20 : w1.cell? ⟨w.heap.size + 1 + 1, 0, none⟩ = some (.int .u8 k2) := H1.out.b3.cell 0
  have p21 : w1.cell? ⟨w.heap.size + 1 + 1, 1, none⟩ = some (.int .i64 i2) := H1.out.b3.cell 1
  have p22 : w1.cell? ⟨w.heap.size + 1 + 1, 2, none⟩ = some (.int .u64 r2) := H1.out.b3.cell 2
  have p23 : w1.cell? ⟨w.heap.size + 1 + 1, 3, none⟩ = some (.string t2) := H1.out.b3.cell 3
  go_wp2_with fail
  refine (K2.out _ H1.out.tabs).mono ?_
  rintro e w2 ⟨rfl, hb⟩
  have H2 := box (H1.out.later hb)
  clear hb p00 p01 p02 p03 p10 p11 p12 p13 p20 p21 p22 p23
  have p00 : w2.cell? ⟨w.heap.size, 0, none⟩ = some (.int .u8 kk) := H2.out.b1.cell 0
  have p01 : w2.cell? ⟨w.heap.size, 1, none⟩ = some (.int .i64 ii) := H2.out.b1.cell 1
  have p02 : w2.cell? ⟨w.heap.size, 2, none⟩ = some (.int .u64 rr) := H2.out.b1.cell 2
  have p03 : w2.cell? ⟨w.heap.size, 3, none⟩ = some (.string tt) := H2.out.b1.cell 3
  have p10 : w2.cell? ⟨w.heap.size + 1, 0, none⟩ = some (.int .u8 k1) := H2.out.b2.cell 0
  have p11 : w2.cell? ⟨w.heap.size + 1, 1, none⟩ = some (.int .i64 i1) := H2.out.b2.cell 1
  have p12 : w2.cell? ⟨w.heap.size + 1, 2, none⟩ = some (.int .u64 r1) := H2.out.b2.cell 2
  have p13 : w2.cell? ⟨w.heap.size + 1, 3, none⟩ = some (.string t1) := H2.out.b2.cell 3
  have p20 : w2.cell? ⟨w.heap.size + 1 + 1, 0, none⟩ = some (.int .u8 k2) := H2.out.b3.cell 0
  have p21 : w2.cell? ⟨w.heap.size + 1 + 1, 1, none⟩ = some (.int .i64 i2) := H2.out.b3.cell 1
  have p22 : w2.cell? ⟨w.heap.size + 1 + 1, 2, none⟩ = some (.int .u64 r2) := H2.out.b3.cell 2
  have p23 : w2.cell? ⟨w.heap.size + 1 + 1, 3, none⟩ = some (.string t2) := H2.out.b3.cell 3
  go_wp2_with fail
  refine (K3.out _ H2.out.tabs).mono ?_
  rintro e w3 ⟨rfl, hb⟩
  have H3 := box (H2.out.later hb)
  clear hb p00 p01 p02 p03 p10 p11 p12 p13 p20 p21 p22 p23
  go_wp2_with fail
  refine (R1.out _ H3.out.v1 H3.out.tabs).mono ?_
  rintro e w4 ⟨rfl, hb⟩
  have H4 := box (H3.out.later hb)
  clear hb
  go_wp2_with fail
  refine (R2.out _ H4.out.v2 H4.out.tabs).mono ?_
  rintro e w5 ⟨rfl, hb⟩
  have H5 := box (H4.out.later hb)
  clear hb
  go_wp2_with fail
  refine (R3.out _ H5.out.v3 H5.out.tabs).mono ?_
  rintro e w6 ⟨rfl, hb⟩
  have H6 := box (H5.out.later hb)
  clear hb
  have p00 : w6.cell? ⟨w.heap.size, 0, none⟩ = some (.int .u8 kk) := H6.out.b1.cell 0
  have p01 : w6.cell? ⟨w.heap.size, 1, none⟩ = some (.int .i64 ii) := H6.out.b1.cell 1
  have p02 : w6.cell? ⟨w.heap.size, 2, none⟩ = some (.int .u64 rr) := H6.out.b1.cell 2
  have p03 : w6.cell? ⟨w.heap.size, 3, none⟩ = some (.string tt) := H6.out.b1.cell 3
  have p10 : w6.cell? ⟨w.heap.size + 1, 0, none⟩ = some (.int .u8 k1) := H6.out.b2.cell 0
  have p11 : w6.cell? ⟨w.heap.size + 1, 1, none⟩ = some (.int .i64 i1) := H6.out.b2.cell 1
  have p12 : w6.cell? ⟨w.heap.size + 1, 2, none⟩ = some (.int .u64 r1) := H6.out.b2.cell 2
  have p13 : w6.cell? ⟨w.heap.size + 1, 3, none⟩ = some (.string t1) := H6.out.b2.cell 3
  have p20 : w6.cell? ⟨w.heap.size + 1 + 1, 0, none⟩ = some (.int .u8 k2) := H6.out.b3.cell 0
  have p21 : w6.cell? ⟨w.heap.size + 1 + 1, 1, none⟩ = some (.int .i64 i2) := H6.out.b3.cell 1
  have p22 : w6.cell? ⟨w.heap.size + 1 + 1, 2, none⟩ = some (.int .u64 r2) := H6.out.b3.cell 2
  have p23 : w6.cell? ⟨w.heap.size + 1 + 1, 3, none⟩ = some (.string t2) := H6.out.b3.cell 3
  go_wp2_with fail
  refine (L12.out _).mono ?_
  rintro e w7 ⟨rfl, hb⟩
  have H7 := box (H6.out.later hb)
  clear hb p00 p01 p02 p03 p10 p11 p12 p13 p20 p21 p22 p23
  have p00 : w7.cell? ⟨w.heap.size, 0, none⟩ = some (.int .u8 kk) := H7.out.b1.cell 0
  have p01 : w7.cell? ⟨w.heap.size, 1, none⟩ = some (.int .i64 ii) := H7.out.b1.cell 1
  have p02 : w7.cell? ⟨w.heap.size, 2, none⟩ = some (.int .u64 rr) := H7.out.b1.cell 2
  have p03 : w7.cell? ⟨w.heap.size, 3, none⟩ = some (.string tt) := H7.out.b1.cell 3
  have p10 : w7.cell? ⟨w.heap.size + 1, 0, none⟩ = some (.int .u8 k1) := H7.out.b2.cell 0
  have p11 : w7.cell? ⟨w.heap.size + 1, 1, none⟩ = some (.int .i64 i1) := H7.out.b2.cell 1
  have p12 : w7.cell? ⟨w.heap.size + 1, 2, none⟩ = some (.int .u64 r1) := H7.out.b2.cell 2
  have p13 : w7.cell? ⟨w.heap.size + 1, 3, none⟩ = some (.string t1) := H7.out.b2.cell 3
  have p20 : w7.cell? ⟨w.heap.size + 1 + 1, 0, none⟩ = some (.int .u8 k2) := H7.out.b3.cell 0
  have p21 : w7.cell? ⟨w.heap.size + 1 + 1, 1, none⟩ = some (.int .i64 i2) := H7.out.b3.cell 1
  have p22 : w7.cell? ⟨w.heap.size + 1 + 1, 2, none⟩ = some (.int .u64 r2) := H7.out.b3.cell 2
  have p23 : w7.cell? ⟨w.heap.size + 1 + 1, 3, none⟩ = some (.string t2) := H7.out.b3.cell 3
  go_wp2_with fail
  refine (L21.out _).mono ?_
  rintro e w8 ⟨rfl, hb⟩
  have H8 := box (H7.out.later hb)
  clear hb p00 p01 p02 p03 p10 p11 p12 p13 p20 p21 p22 p23
  have p00 : w8.cell? ⟨w.heap.size, 0, none⟩ = some (.int .u8 kk) := H8.out.b1.cell 0
  have p01 : w8.cell? ⟨w.heap.size, 1, none⟩ = some (.int .i64 ii) := H8.out.b1.cell 1
  have p02 : w8.cell? ⟨w.heap.size, 2, none⟩ = some (.int .u64 rr) := H8.out.b1.cell 2
  have p03 : w8.cell? ⟨w.heap.size, 3, none⟩ = some (.string tt) := H8.out.b1.cell 3
  have p10 : w8.cell? ⟨w.heap.size + 1, 0, none⟩ = some (.int .u8 k1) := H8.out.b2.cell 0
  have p11 : w8.cell? ⟨w.heap.size + 1, 1, none⟩ = some (.int .i64 i1) := H8.out.b2.cell 1
  have p12 : w8.cell? ⟨w.heap.size + 1, 2, none⟩ = some (.int .u64 r1) := H8.out.b2.cell 2
  have p13 : w8.cell? ⟨w.heap.size + 1, 3, none⟩ = some (.string t1) := H8.out.b2.cell 3
  have p20 : w8.cell? ⟨w.heap.size + 1 + 1, 0, none⟩ = some (.int .u8 k2) := H8.out.b3.cell 0
  have p21 : w8.cell? ⟨w.heap.size + 1 + 1, 1, none⟩ = some (.int .i64 i2) := H8.out.b3.cell 1
  have p22 : w8.cell? ⟨w.heap.size + 1 + 1, 2, none⟩ = some (.int .u64 r2) := H8.out.b3.cell 2
  have p23 : w8.cell? ⟨w.heap.size + 1 + 1, 3, none⟩ = some (.string t2) := H8.out.b3.cell 3
  go_wp2_with fail
  refine (L12.out _).mono ?_
  rintro e w9 ⟨rfl, hb⟩
  have H9 := box (H8.out.later hb)
  clear hb p00 p01 p02 p03 p10 p11 p12 p13 p20 p21 p22 p23
  have p00 : w9.cell? ⟨w.heap.size, 0, none⟩ = some (.int .u8 kk) := H9.out.b1.cell 0
  have p01 : w9.cell? ⟨w.heap.size, 1, none⟩ = some (.int .i64 ii) := H9.out.b1.cell 1
  have p02 : w9.cell? ⟨w.heap.size, 2, none⟩ = some (.int .u64 rr) := H9.out.b1.cell 2
  have p03 : w9.cell? ⟨w.heap.size, 3, none⟩ = some (.string tt) := H9.out.b1.cell 3
  have p10 : w9.cell? ⟨w.heap.size + 1, 0, none⟩ = some (.int .u8 k1) := H9.out.b2.cell 0
  have p11 : w9.cell? ⟨w.heap.size + 1, 1, none⟩ = some (.int .i64 i1) := H9.out.b2.cell 1
  have p12 : w9.cell? ⟨w.heap.size + 1, 2, none⟩ = some (.int .u64 r1) := H9.out.b2.cell 2
  have p13 : w9.cell? ⟨w.heap.size + 1, 3, none⟩ = some (.string t1) := H9.out.b2.cell 3
  have p20 : w9.cell? ⟨w.heap.size + 1 + 1, 0, none⟩ = some (.int .u8 k2) := H9.out.b3.cell 0
  have p21 : w9.cell? ⟨w.heap.size + 1 + 1, 1, none⟩ = some (.int .i64 i2) := H9.out.b3.cell 1
  have p22 : w9.cell? ⟨w.heap.size + 1 + 1, 2, none⟩ = some (.int .u64 r2) := H9.out.b3.cell 2
  have p23 : w9.cell? ⟨w.heap.size + 1 + 1, 3, none⟩ = some (.string t2) := H9.out.b3.cell 3
  go_wp2_with fail
  refine (L23.out _).mono ?_
  rintro e w10 ⟨rfl, hb⟩
  have H10 := box (H9.out.later hb)
  clear hb p00 p01 p02 p03 p10 p11 p12 p13 p20 p21 p22 p23
  have p00 : w10.cell? ⟨w.heap.size, 0, none⟩ = some (.int .u8 kk) := H10.out.b1.cell 0
  have p01 : w10.cell? ⟨w.heap.size, 1, none⟩ = some (.int .i64 ii) := H10.out.b1.cell 1
  have p02 : w10.cell? ⟨w.heap.size, 2, none⟩ = some (.int .u64 rr) := H10.out.b1.cell 2
  have p03 : w10.cell? ⟨w.heap.size, 3, none⟩ = some (.string tt) := H10.out.b1.cell 3
  have p10 : w10.cell? ⟨w.heap.size + 1, 0, none⟩ = some (.int .u8 k1) := H10.out.b2.cell 0
  have p11 : w10.cell? ⟨w.heap.size + 1, 1, none⟩ = some (.int .i64 i1) := H10.out.b2.cell 1
  have p12 : w10.cell? ⟨w.heap.size + 1, 2, none⟩ = some (.int .u64 r1) := H10.out.b2.cell 2
  have p13 : w10.cell? ⟨w.heap.size + 1, 3, none⟩ = some (.string t1) := H10.out.b2.cell 3
  have p20 : w10.cell? ⟨w.heap.size + 1 + 1, 0, none⟩ = some (.int .u8 k2) := H10.out.b3.cell 0
  have p21 : w10.cell? ⟨w.heap.size + 1 + 1, 1, none⟩ = some (.int .i64 i2) := H10.out.b3.cell 1
  have p22 : w10.cell? ⟨w.heap.size + 1 + 1, 2, none⟩ = some (.int .u64 r2) := H10.out.b3.cell 2
  have p23 : w10.cell? ⟨w.heap.size + 1 + 1, 3, none⟩ = some (.string t2) := H10.out.b3.cell 3
  go_wp2_with fail
  refine (P12.out _ H10.out.v1 H10.out.v2).mono ?_
  rintro e w11 ⟨rfl, hb⟩
  have H11 := box (H10.out.later hb)
  clear hb p00 p01 p02 p03 p10 p11 p12 p13 p20 p21 p22 p23
  go_wp2_with fail
  refine (P21.out _ H11.out.v2 H11.out.v1).mono ?_
  rintro e w12 ⟨rfl, hb⟩
  have H12 := box (H11.out.later hb)
  clear hb
  go_wp2_with fail
  refine (S12.out _ H12.out.v1 H12.out.v2).mono ?_
  rintro e w13 ⟨rfl, hb⟩
  have H13 := box (H12.out.later hb)
  clear hb
  go_wp2_with fail
  refine (P12.out _ H13.out.v1 H13.out.v2).mono ?_
  rintro e w14 ⟨rfl, hb⟩
  have H14 := box (H13.out.later hb)
  clear hb
  go_wp2_with fail
  refine (P23.out _ H14.out.v2 H14.out.v3).mono ?_
  rintro e w15 ⟨rfl, hb⟩
  have H15 := box (H14.out.later hb)
  clear hb
  go_wp2_with fail
  refine (alive04 _ H15.out.tabs).mono ?_
  rintro e w16 ⟨rfl, hb⟩
  have H16 := box (H15.out.later hb)
  clear hb
  go_wp2_with fail
  go_ret
  exact ⟨rfl, H16.out.below⟩

set_option maxHeartbeats 8000000 in
theorem line_main_ab (kk k1 k2 : Nat) (ii i1 i2 : Int) (rr r1 r2 : Nat) (tt t1 t2 : ByteArray) (a b c : Option Addr) (n m o ca cb cc : Nat) (l k j : List Val) (w : World) (hT : Tabs w) (hv1 : Vals w a n l) (hv2 : Vals w b m k) (hv3 : Vals w c o j)
    (K1 : Box (∀ W, Tabs W → Calls Tryd.prog 14 #[.agg #[.int .u8 kk, .int .i64 ii, .int .u64 rr, .string tt]] W fun e w' => e = .returned (.int .i64 0) ∧ Below W.heap.size W w')) (K2 : Box (∀ W, Tabs W → Calls Tryd.prog 14 #[.agg #[.int .u8 k1, .int .i64 i1, .int .u64 r1, .string t1]] W fun e w' => e = .returned (.int .i64 0) ∧ Below W.heap.size W w')) (K3 : Box (∀ W, Tabs W → Calls Tryd.prog 14 #[.agg #[.int .u8 k2, .int .i64 i2, .int .u64 r2, .string t2]] W fun e w' => e = .returned (.int .i64 0) ∧ Below W.heap.size W w')) (R1 : Box (∀ W, Vals W a n l → Tabs W → Calls Tryd.prog 16 #[.slice a n ca] W fun e w' => e = .returned (.int .i64 0) ∧ Below W.heap.size W w')) (R2 : Box (∀ W, Vals W b m k → Tabs W → Calls Tryd.prog 16 #[.slice b m cb] W fun e w' => e = .returned (.int .i64 0) ∧ Below W.heap.size W w')) (R3 : Box (∀ W, Vals W c o j → Tabs W → Calls Tryd.prog 16 #[.slice c o cc] W fun e w' => e = .returned (.int .i64 0) ∧ Below W.heap.size W w'))
    (L12 : Box (∀ W, Calls Tryd.prog 28 #[.agg #[.int .u8 kk, .int .i64 ii, .int .u64 rr, .string tt], .agg #[.int .u8 k1, .int .i64 i1, .int .u64 r1, .string t1]] W fun e w' => e = .returned (.bool true) ∧ Below W.heap.size W w')) (L21 : Box (∀ W, Calls Tryd.prog 28 #[.agg #[.int .u8 k1, .int .i64 i1, .int .u64 r1, .string t1], .agg #[.int .u8 kk, .int .i64 ii, .int .u64 rr, .string tt]] W fun e w' => e = .returned (.bool false) ∧ Below W.heap.size W w')) (EQ : ∀ w, (Op.equalIn 10000 24 (.agg #[.int .u8 kk, .int .i64 ii, .int .u64 rr, .string tt]) (.agg #[.int .u8 k1, .int .i64 i1, .int .u64 r1, .string t1])).run Tryd.prog w = .ok false w) (L23 : Box (∀ W, Calls Tryd.prog 28 #[.agg #[.int .u8 k1, .int .i64 i1, .int .u64 r1, .string t1], .agg #[.int .u8 k2, .int .i64 i2, .int .u64 r2, .string t2]] W fun e w' => e = .returned (.bool false) ∧ Below W.heap.size W w'))
    (P12 : Box (∀ W, Vals W a n l → Vals W b m k → Calls Tryd.prog 30 #[.slice a n ca, .slice b m cb] W fun e w' => e = .returned (.bool true) ∧ Below W.heap.size W w')) (P21 : Box (∀ W, Vals W b m k → Vals W a n l → Calls Tryd.prog 30 #[.slice b m cb, .slice a n ca] W fun e w' => e = .returned (.bool false) ∧ Below W.heap.size W w')) (S12 : Box (∀ W, Vals W a n l → Vals W b m k → Calls Tryd.prog 31 #[.slice a n ca, .slice b m cb] W fun e w' => e = .returned (.bool false) ∧ Below W.heap.size W w')) (P23 : Box (∀ W, Vals W b m k → Vals W c o j → Calls Tryd.prog 30 #[.slice b m cb, .slice c o cc] W fun e w' => e = .returned (.bool true) ∧ Below W.heap.size W w')) (P13 : Box (∀ W, Vals W a n l → Vals W c o j → Calls Tryd.prog 30 #[.slice a n ca, .slice c o cc] W fun e w' => e = .returned (.bool true) ∧ Below W.heap.size W w')) :
    Calls Tryd.prog 6 #[.agg #[.int .u8 kk, .int .i64 ii, .int .u64 rr, .string tt], .agg #[.int .u8 k1, .int .i64 i1, .int .u64 r1, .string t1], .agg #[.int .u8 k2, .int .i64 i2, .int .u64 r2, .string t2], .slice a n ca, .slice b m cb, .slice c o cc] w fun e w' => e = .returned (.bool true) ∧ Below w.heap.size w w' := by
  have HT := box hT
  have V1 := box hv1
  have V2 := box hv2
  have V3 := box hv3
  clear hT hv1 hv2 hv3
  go_enter Tryd.func6, Tryd.ntmps6
  go_wp2_with fail
  obtain ⟨W, hW, hb, P, Q, R⟩ := three_boxes w #[.int .u8 kk, .int .i64 ii, .int .u64 rr, .string tt] #[.int .u8 k1, .int .i64 i1, .int .u64 r1, .string t1] #[.int .u8 k2, .int .i64 i2, .int .u64 r2, .string t2]
  have H0 : Box (Here w W ⟨kk, ii, rr, tt⟩ ⟨k1, i1, r1, t1⟩ ⟨k2, i2, r2, t2⟩ a b c n m o l k j) := box ⟨hb, HT.out.below hb, P, Q, R, vals_below V1.out hb, vals_below V2.out hb, vals_below V3.out hb⟩
  rw [hW]
  clear hW hb P Q R
  refine (K1.out _ H0.out.tabs).mono ?_
  rintro e w1 ⟨rfl, hb⟩
  have H1 := box (H0.out.later hb)
  clear hb
  have p00 : w1.cell? ⟨w.heap.size, 0, none⟩ = some (.int .u8 kk) := H1.out.b1.cell 0
  have p01 : w1.cell? ⟨w.heap.size, 1, none⟩ = some (.int .i64 ii) := H1.out.b1.cell 1
  have p02 : w1.cell? ⟨w.heap.size, 2, none⟩ = some (.int .u64 rr) := H1.out.b1.cell 2
  have p03 : w1.cell? ⟨w.heap.size, 3, none⟩ = some (.string tt) := H1.out.b1.cell 3
  have p10 : w1.cell? ⟨w.heap.size + 1, 0, none⟩ = some (.int .u8 k1) := H1.out.b2.cell 0
  have p11 : w1.cell? ⟨w.heap.size + 1, 1, none⟩ = some (.int .i64 i1) := H1.out.b2.cell 1
  have p12 : w1.cell? ⟨w.heap.size + 1, 2, none⟩ = some (.int .u64 r1) := H1.out.b2.cell 2
  have p13 : w1.cell? ⟨w.heap.size + 1, 3, none⟩ = some (.string t1) := H1.out.b2.cell 3
  have p20 : w1.cell? ⟨w.heap.size + 1 + 1, 0, none⟩ = some (.int .u8 k2) := H1.out.b3.cell 0
  have p21 : w1.cell? ⟨w.heap.size + 1 + 1, 1, none⟩ = some (.int .i64 i2) := H1.out.b3.cell 1
  have p22 : w1.cell? ⟨w.heap.size + 1 + 1, 2, none⟩ = some (.int .u64 r2) := H1.out.b3.cell 2
  have p23 : w1.cell? ⟨w.heap.size + 1 + 1, 3, none⟩ = some (.string t2) := H1.out.b3.cell 3
  go_wp2_with fail
  refine (K2.out _ H1.out.tabs).mono ?_
  rintro e w2 ⟨rfl, hb⟩
  have H2 := box (H1.out.later hb)
  clear hb p00 p01 p02 p03 p10 p11 p12 p13 p20 p21 p22 p23
  have p00 : w2.cell? ⟨w.heap.size, 0, none⟩ = some (.int .u8 kk) := H2.out.b1.cell 0
  have p01 : w2.cell? ⟨w.heap.size, 1, none⟩ = some (.int .i64 ii) := H2.out.b1.cell 1
  have p02 : w2.cell? ⟨w.heap.size, 2, none⟩ = some (.int .u64 rr) := H2.out.b1.cell 2
  have p03 : w2.cell? ⟨w.heap.size, 3, none⟩ = some (.string tt) := H2.out.b1.cell 3
  have p10 : w2.cell? ⟨w.heap.size + 1, 0, none⟩ = some (.int .u8 k1) := H2.out.b2.cell 0
  have p11 : w2.cell? ⟨w.heap.size + 1, 1, none⟩ = some (.int .i64 i1) := H2.out.b2.cell 1
  have p12 : w2.cell? ⟨w.heap.size + 1, 2, none⟩ = some (.int .u64 r1) := H2.out.b2.cell 2
  have p13 : w2.cell? ⟨w.heap.size + 1, 3, none⟩ = some (.string t1) := H2.out.b2.cell 3
  have p20 : w2.cell? ⟨w.heap.size + 1 + 1, 0, none⟩ = some (.int .u8 k2) := H2.out.b3.cell 0
  have p21 : w2.cell? ⟨w.heap.size + 1 + 1, 1, none⟩ = some (.int .i64 i2) := H2.out.b3.cell 1
  have p22 : w2.cell? ⟨w.heap.size + 1 + 1, 2, none⟩ = some (.int .u64 r2) := H2.out.b3.cell 2
  have p23 : w2.cell? ⟨w.heap.size + 1 + 1, 3, none⟩ = some (.string t2) := H2.out.b3.cell 3
  go_wp2_with fail
  refine (K3.out _ H2.out.tabs).mono ?_
  rintro e w3 ⟨rfl, hb⟩
  have H3 := box (H2.out.later hb)
  clear hb p00 p01 p02 p03 p10 p11 p12 p13 p20 p21 p22 p23
  go_wp2_with fail
  refine (R1.out _ H3.out.v1 H3.out.tabs).mono ?_
  rintro e w4 ⟨rfl, hb⟩
  have H4 := box (H3.out.later hb)
  clear hb
  go_wp2_with fail
  refine (R2.out _ H4.out.v2 H4.out.tabs).mono ?_
  rintro e w5 ⟨rfl, hb⟩
  have H5 := box (H4.out.later hb)
  clear hb
  go_wp2_with fail
  refine (R3.out _ H5.out.v3 H5.out.tabs).mono ?_
  rintro e w6 ⟨rfl, hb⟩
  have H6 := box (H5.out.later hb)
  clear hb
  have p00 : w6.cell? ⟨w.heap.size, 0, none⟩ = some (.int .u8 kk) := H6.out.b1.cell 0
  have p01 : w6.cell? ⟨w.heap.size, 1, none⟩ = some (.int .i64 ii) := H6.out.b1.cell 1
  have p02 : w6.cell? ⟨w.heap.size, 2, none⟩ = some (.int .u64 rr) := H6.out.b1.cell 2
  have p03 : w6.cell? ⟨w.heap.size, 3, none⟩ = some (.string tt) := H6.out.b1.cell 3
  have p10 : w6.cell? ⟨w.heap.size + 1, 0, none⟩ = some (.int .u8 k1) := H6.out.b2.cell 0
  have p11 : w6.cell? ⟨w.heap.size + 1, 1, none⟩ = some (.int .i64 i1) := H6.out.b2.cell 1
  have p12 : w6.cell? ⟨w.heap.size + 1, 2, none⟩ = some (.int .u64 r1) := H6.out.b2.cell 2
  have p13 : w6.cell? ⟨w.heap.size + 1, 3, none⟩ = some (.string t1) := H6.out.b2.cell 3
  have p20 : w6.cell? ⟨w.heap.size + 1 + 1, 0, none⟩ = some (.int .u8 k2) := H6.out.b3.cell 0
  have p21 : w6.cell? ⟨w.heap.size + 1 + 1, 1, none⟩ = some (.int .i64 i2) := H6.out.b3.cell 1
  have p22 : w6.cell? ⟨w.heap.size + 1 + 1, 2, none⟩ = some (.int .u64 r2) := H6.out.b3.cell 2
  have p23 : w6.cell? ⟨w.heap.size + 1 + 1, 3, none⟩ = some (.string t2) := H6.out.b3.cell 3
  go_wp2_with fail
  refine (L12.out _).mono ?_
  rintro e w7 ⟨rfl, hb⟩
  have H7 := box (H6.out.later hb)
  clear hb p00 p01 p02 p03 p10 p11 p12 p13 p20 p21 p22 p23
  have p00 : w7.cell? ⟨w.heap.size, 0, none⟩ = some (.int .u8 kk) := H7.out.b1.cell 0
  have p01 : w7.cell? ⟨w.heap.size, 1, none⟩ = some (.int .i64 ii) := H7.out.b1.cell 1
  have p02 : w7.cell? ⟨w.heap.size, 2, none⟩ = some (.int .u64 rr) := H7.out.b1.cell 2
  have p03 : w7.cell? ⟨w.heap.size, 3, none⟩ = some (.string tt) := H7.out.b1.cell 3
  have p10 : w7.cell? ⟨w.heap.size + 1, 0, none⟩ = some (.int .u8 k1) := H7.out.b2.cell 0
  have p11 : w7.cell? ⟨w.heap.size + 1, 1, none⟩ = some (.int .i64 i1) := H7.out.b2.cell 1
  have p12 : w7.cell? ⟨w.heap.size + 1, 2, none⟩ = some (.int .u64 r1) := H7.out.b2.cell 2
  have p13 : w7.cell? ⟨w.heap.size + 1, 3, none⟩ = some (.string t1) := H7.out.b2.cell 3
  have p20 : w7.cell? ⟨w.heap.size + 1 + 1, 0, none⟩ = some (.int .u8 k2) := H7.out.b3.cell 0
  have p21 : w7.cell? ⟨w.heap.size + 1 + 1, 1, none⟩ = some (.int .i64 i2) := H7.out.b3.cell 1
  have p22 : w7.cell? ⟨w.heap.size + 1 + 1, 2, none⟩ = some (.int .u64 r2) := H7.out.b3.cell 2
  have p23 : w7.cell? ⟨w.heap.size + 1 + 1, 3, none⟩ = some (.string t2) := H7.out.b3.cell 3
  go_wp2_with fail
  refine (L21.out _).mono ?_
  rintro e w8 ⟨rfl, hb⟩
  have H8 := box (H7.out.later hb)
  clear hb p00 p01 p02 p03 p10 p11 p12 p13 p20 p21 p22 p23
  have p00 : w8.cell? ⟨w.heap.size, 0, none⟩ = some (.int .u8 kk) := H8.out.b1.cell 0
  have p01 : w8.cell? ⟨w.heap.size, 1, none⟩ = some (.int .i64 ii) := H8.out.b1.cell 1
  have p02 : w8.cell? ⟨w.heap.size, 2, none⟩ = some (.int .u64 rr) := H8.out.b1.cell 2
  have p03 : w8.cell? ⟨w.heap.size, 3, none⟩ = some (.string tt) := H8.out.b1.cell 3
  have p10 : w8.cell? ⟨w.heap.size + 1, 0, none⟩ = some (.int .u8 k1) := H8.out.b2.cell 0
  have p11 : w8.cell? ⟨w.heap.size + 1, 1, none⟩ = some (.int .i64 i1) := H8.out.b2.cell 1
  have p12 : w8.cell? ⟨w.heap.size + 1, 2, none⟩ = some (.int .u64 r1) := H8.out.b2.cell 2
  have p13 : w8.cell? ⟨w.heap.size + 1, 3, none⟩ = some (.string t1) := H8.out.b2.cell 3
  have p20 : w8.cell? ⟨w.heap.size + 1 + 1, 0, none⟩ = some (.int .u8 k2) := H8.out.b3.cell 0
  have p21 : w8.cell? ⟨w.heap.size + 1 + 1, 1, none⟩ = some (.int .i64 i2) := H8.out.b3.cell 1
  have p22 : w8.cell? ⟨w.heap.size + 1 + 1, 2, none⟩ = some (.int .u64 r2) := H8.out.b3.cell 2
  have p23 : w8.cell? ⟨w.heap.size + 1 + 1, 3, none⟩ = some (.string t2) := H8.out.b3.cell 3
  go_wp2_with fail
  refine (L12.out _).mono ?_
  rintro e w9 ⟨rfl, hb⟩
  have H9 := box (H8.out.later hb)
  clear hb p00 p01 p02 p03 p10 p11 p12 p13 p20 p21 p22 p23
  have p00 : w9.cell? ⟨w.heap.size, 0, none⟩ = some (.int .u8 kk) := H9.out.b1.cell 0
  have p01 : w9.cell? ⟨w.heap.size, 1, none⟩ = some (.int .i64 ii) := H9.out.b1.cell 1
  have p02 : w9.cell? ⟨w.heap.size, 2, none⟩ = some (.int .u64 rr) := H9.out.b1.cell 2
  have p03 : w9.cell? ⟨w.heap.size, 3, none⟩ = some (.string tt) := H9.out.b1.cell 3
  have p10 : w9.cell? ⟨w.heap.size + 1, 0, none⟩ = some (.int .u8 k1) := H9.out.b2.cell 0
  have p11 : w9.cell? ⟨w.heap.size + 1, 1, none⟩ = some (.int .i64 i1) := H9.out.b2.cell 1
  have p12 : w9.cell? ⟨w.heap.size + 1, 2, none⟩ = some (.int .u64 r1) := H9.out.b2.cell 2
  have p13 : w9.cell? ⟨w.heap.size + 1, 3, none⟩ = some (.string t1) := H9.out.b2.cell 3
  have p20 : w9.cell? ⟨w.heap.size + 1 + 1, 0, none⟩ = some (.int .u8 k2) := H9.out.b3.cell 0
  have p21 : w9.cell? ⟨w.heap.size + 1 + 1, 1, none⟩ = some (.int .i64 i2) := H9.out.b3.cell 1
  have p22 : w9.cell? ⟨w.heap.size + 1 + 1, 2, none⟩ = some (.int .u64 r2) := H9.out.b3.cell 2
  have p23 : w9.cell? ⟨w.heap.size + 1 + 1, 3, none⟩ = some (.string t2) := H9.out.b3.cell 3
  go_wp2_with fail
  refine (L23.out _).mono ?_
  rintro e w10 ⟨rfl, hb⟩
  have H10 := box (H9.out.later hb)
  clear hb p00 p01 p02 p03 p10 p11 p12 p13 p20 p21 p22 p23
  have p00 : w10.cell? ⟨w.heap.size, 0, none⟩ = some (.int .u8 kk) := H10.out.b1.cell 0
  have p01 : w10.cell? ⟨w.heap.size, 1, none⟩ = some (.int .i64 ii) := H10.out.b1.cell 1
  have p02 : w10.cell? ⟨w.heap.size, 2, none⟩ = some (.int .u64 rr) := H10.out.b1.cell 2
  have p03 : w10.cell? ⟨w.heap.size, 3, none⟩ = some (.string tt) := H10.out.b1.cell 3
  have p10 : w10.cell? ⟨w.heap.size + 1, 0, none⟩ = some (.int .u8 k1) := H10.out.b2.cell 0
  have p11 : w10.cell? ⟨w.heap.size + 1, 1, none⟩ = some (.int .i64 i1) := H10.out.b2.cell 1
  have p12 : w10.cell? ⟨w.heap.size + 1, 2, none⟩ = some (.int .u64 r1) := H10.out.b2.cell 2
  have p13 : w10.cell? ⟨w.heap.size + 1, 3, none⟩ = some (.string t1) := H10.out.b2.cell 3
  have p20 : w10.cell? ⟨w.heap.size + 1 + 1, 0, none⟩ = some (.int .u8 k2) := H10.out.b3.cell 0
  have p21 : w10.cell? ⟨w.heap.size + 1 + 1, 1, none⟩ = some (.int .i64 i2) := H10.out.b3.cell 1
  have p22 : w10.cell? ⟨w.heap.size + 1 + 1, 2, none⟩ = some (.int .u64 r2) := H10.out.b3.cell 2
  have p23 : w10.cell? ⟨w.heap.size + 1 + 1, 3, none⟩ = some (.string t2) := H10.out.b3.cell 3
  go_wp2_with fail
  refine (P12.out _ H10.out.v1 H10.out.v2).mono ?_
  rintro e w11 ⟨rfl, hb⟩
  have H11 := box (H10.out.later hb)
  clear hb p00 p01 p02 p03 p10 p11 p12 p13 p20 p21 p22 p23
  go_wp2_with fail
  refine (P21.out _ H11.out.v2 H11.out.v1).mono ?_
  rintro e w12 ⟨rfl, hb⟩
  have H12 := box (H11.out.later hb)
  clear hb
  go_wp2_with fail
  refine (S12.out _ H12.out.v1 H12.out.v2).mono ?_
  rintro e w13 ⟨rfl, hb⟩
  have H13 := box (H12.out.later hb)
  clear hb
  go_wp2_with fail
  refine (P12.out _ H13.out.v1 H13.out.v2).mono ?_
  rintro e w14 ⟨rfl, hb⟩
  have H14 := box (H13.out.later hb)
  clear hb
  go_wp2_with fail
  refine (P23.out _ H14.out.v2 H14.out.v3).mono ?_
  rintro e w15 ⟨rfl, hb⟩
  have H15 := box (H14.out.later hb)
  clear hb
  go_wp2_with fail
  refine (P13.out _ H15.out.v1 H15.out.v3).mono ?_
  rintro e w16 ⟨rfl, hb⟩
  have H16 := box (H15.out.later hb)
  clear hb
  go_wp2_with fail
  refine (alive04 _ H16.out.tabs).mono ?_
  rintro e w17 ⟨rfl, hb⟩
  have H17 := box (H16.out.later hb)
  clear hb
  go_wp2_with fail
  go_ret
  exact ⟨rfl, H17.out.below⟩

set_option maxHeartbeats 8000000 in
theorem line_main_ac (kk k1 k2 : Nat) (ii i1 i2 : Int) (rr r1 r2 : Nat) (tt t1 t2 : ByteArray) (a b c : Option Addr) (n m o ca cb cc : Nat) (l k j : List Val) (w : World) (hT : Tabs w) (hv1 : Vals w a n l) (hv2 : Vals w b m k) (hv3 : Vals w c o j)
    (K1 : Box (∀ W, Tabs W → Calls Tryd.prog 14 #[.agg #[.int .u8 kk, .int .i64 ii, .int .u64 rr, .string tt]] W fun e w' => e = .returned (.int .i64 0) ∧ Below W.heap.size W w')) (K2 : Box (∀ W, Tabs W → Calls Tryd.prog 14 #[.agg #[.int .u8 k1, .int .i64 i1, .int .u64 r1, .string t1]] W fun e w' => e = .returned (.int .i64 0) ∧ Below W.heap.size W w')) (K3 : Box (∀ W, Tabs W → Calls Tryd.prog 14 #[.agg #[.int .u8 k2, .int .i64 i2, .int .u64 r2, .string t2]] W fun e w' => e = .returned (.int .i64 0) ∧ Below W.heap.size W w')) (R1 : Box (∀ W, Vals W a n l → Tabs W → Calls Tryd.prog 16 #[.slice a n ca] W fun e w' => e = .returned (.int .i64 0) ∧ Below W.heap.size W w')) (R2 : Box (∀ W, Vals W b m k → Tabs W → Calls Tryd.prog 16 #[.slice b m cb] W fun e w' => e = .returned (.int .i64 0) ∧ Below W.heap.size W w')) (R3 : Box (∀ W, Vals W c o j → Tabs W → Calls Tryd.prog 16 #[.slice c o cc] W fun e w' => e = .returned (.int .i64 0) ∧ Below W.heap.size W w'))
    (L12 : Box (∀ W, Calls Tryd.prog 28 #[.agg #[.int .u8 kk, .int .i64 ii, .int .u64 rr, .string tt], .agg #[.int .u8 k1, .int .i64 i1, .int .u64 r1, .string t1]] W fun e w' => e = .returned (.bool true) ∧ Below W.heap.size W w')) (L21 : Box (∀ W, Calls Tryd.prog 28 #[.agg #[.int .u8 k1, .int .i64 i1, .int .u64 r1, .string t1], .agg #[.int .u8 kk, .int .i64 ii, .int .u64 rr, .string tt]] W fun e w' => e = .returned (.bool false) ∧ Below W.heap.size W w')) (EQ : ∀ w, (Op.equalIn 10000 24 (.agg #[.int .u8 kk, .int .i64 ii, .int .u64 rr, .string tt]) (.agg #[.int .u8 k1, .int .i64 i1, .int .u64 r1, .string t1])).run Tryd.prog w = .ok false w) (L23 : Box (∀ W, Calls Tryd.prog 28 #[.agg #[.int .u8 k1, .int .i64 i1, .int .u64 r1, .string t1], .agg #[.int .u8 k2, .int .i64 i2, .int .u64 r2, .string t2]] W fun e w' => e = .returned (.bool false) ∧ Below W.heap.size W w'))
    (P12 : Box (∀ W, Vals W a n l → Vals W b m k → Calls Tryd.prog 30 #[.slice a n ca, .slice b m cb] W fun e w' => e = .returned (.bool false) ∧ Below W.heap.size W w')) (P21 : Box (∀ W, Vals W b m k → Vals W a n l → Calls Tryd.prog 30 #[.slice b m cb, .slice a n ca] W fun e w' => e = .returned (.bool true) ∧ Below W.heap.size W w')) (S12 : Box (∀ W, Vals W a n l → Vals W b m k → Calls Tryd.prog 31 #[.slice a n ca, .slice b m cb] W fun e w' => e = .returned (.bool false) ∧ Below W.heap.size W w')) :
    Calls Tryd.prog 6 #[.agg #[.int .u8 kk, .int .i64 ii, .int .u64 rr, .string tt], .agg #[.int .u8 k1, .int .i64 i1, .int .u64 r1, .string t1], .agg #[.int .u8 k2, .int .i64 i2, .int .u64 r2, .string t2], .slice a n ca, .slice b m cb, .slice c o cc] w fun e w' => e = .returned (.bool true) ∧ Below w.heap.size w w' := by
  have HT := box hT
  have V1 := box hv1
  have V2 := box hv2
  have V3 := box hv3
  clear hT hv1 hv2 hv3
  go_enter Tryd.func6, Tryd.ntmps6
  go_wp2_with fail
  obtain ⟨W, hW, hb, P, Q, R⟩ := three_boxes w #[.int .u8 kk, .int .i64 ii, .int .u64 rr, .string tt] #[.int .u8 k1, .int .i64 i1, .int .u64 r1, .string t1] #[.int .u8 k2, .int .i64 i2, .int .u64 r2, .string t2]
  have H0 : Box (Here w W ⟨kk, ii, rr, tt⟩ ⟨k1, i1, r1, t1⟩ ⟨k2, i2, r2, t2⟩ a b c n m o l k j) := box ⟨hb, HT.out.below hb, P, Q, R, vals_below V1.out hb, vals_below V2.out hb, vals_below V3.out hb⟩
  rw [hW]
  clear hW hb P Q R
  refine (K1.out _ H0.out.tabs).mono ?_
  rintro e w1 ⟨rfl, hb⟩
  have H1 := box (H0.out.later hb)
  clear hb
  have p00 : w1.cell? ⟨w.heap.size, 0, none⟩ = some (.int .u8 kk) := H1.out.b1.cell 0
  have p01 : w1.cell? ⟨w.heap.size, 1, none⟩ = some (.int .i64 ii) := H1.out.b1.cell 1
  have p02 : w1.cell? ⟨w.heap.size, 2, none⟩ = some (.int .u64 rr) := H1.out.b1.cell 2
  have p03 : w1.cell? ⟨w.heap.size, 3, none⟩ = some (.string tt) := H1.out.b1.cell 3
  have p10 : w1.cell? ⟨w.heap.size + 1, 0, none⟩ = some (.int .u8 k1) := H1.out.b2.cell 0
  have p11 : w1.cell? ⟨w.heap.size + 1, 1, none⟩ = some (.int .i64 i1) := H1.out.b2.cell 1
  have p12 : w1.cell? ⟨w.heap.size + 1, 2, none⟩ = some (.int .u64 r1) := H1.out.b2.cell 2
  have p13 : w1.cell? ⟨w.heap.size + 1, 3, none⟩ = some (.string t1) := H1.out.b2.cell 3
  have p20 : w1.cell? ⟨w.heap.size + 1 + 1, 0, none⟩ = some (.int .u8 k2) := H1.out.b3.cell 0
  have p21 : w1.cell? ⟨w.heap.size + 1 + 1, 1, none⟩ = some (.int .i64 i2) := H1.out.b3.cell 1
  have p22 : w1.cell? ⟨w.heap.size + 1 + 1, 2, none⟩ = some (.int .u64 r2) := H1.out.b3.cell 2
  have p23 : w1.cell? ⟨w.heap.size + 1 + 1, 3, none⟩ = some (.string t2) := H1.out.b3.cell 3
  go_wp2_with fail
  refine (K2.out _ H1.out.tabs).mono ?_
  rintro e w2 ⟨rfl, hb⟩
  have H2 := box (H1.out.later hb)
  clear hb p00 p01 p02 p03 p10 p11 p12 p13 p20 p21 p22 p23
  have p00 : w2.cell? ⟨w.heap.size, 0, none⟩ = some (.int .u8 kk) := H2.out.b1.cell 0
  have p01 : w2.cell? ⟨w.heap.size, 1, none⟩ = some (.int .i64 ii) := H2.out.b1.cell 1
  have p02 : w2.cell? ⟨w.heap.size, 2, none⟩ = some (.int .u64 rr) := H2.out.b1.cell 2
  have p03 : w2.cell? ⟨w.heap.size, 3, none⟩ = some (.string tt) := H2.out.b1.cell 3
  have p10 : w2.cell? ⟨w.heap.size + 1, 0, none⟩ = some (.int .u8 k1) := H2.out.b2.cell 0
  have p11 : w2.cell? ⟨w.heap.size + 1, 1, none⟩ = some (.int .i64 i1) := H2.out.b2.cell 1
  have p12 : w2.cell? ⟨w.heap.size + 1, 2, none⟩ = some (.int .u64 r1) := H2.out.b2.cell 2
  have p13 : w2.cell? ⟨w.heap.size + 1, 3, none⟩ = some (.string t1) := H2.out.b2.cell 3
  have p20 : w2.cell? ⟨w.heap.size + 1 + 1, 0, none⟩ = some (.int .u8 k2) := H2.out.b3.cell 0
  have p21 : w2.cell? ⟨w.heap.size + 1 + 1, 1, none⟩ = some (.int .i64 i2) := H2.out.b3.cell 1
  have p22 : w2.cell? ⟨w.heap.size + 1 + 1, 2, none⟩ = some (.int .u64 r2) := H2.out.b3.cell 2
  have p23 : w2.cell? ⟨w.heap.size + 1 + 1, 3, none⟩ = some (.string t2) := H2.out.b3.cell 3
  go_wp2_with fail
  refine (K3.out _ H2.out.tabs).mono ?_
  rintro e w3 ⟨rfl, hb⟩
  have H3 := box (H2.out.later hb)
  clear hb p00 p01 p02 p03 p10 p11 p12 p13 p20 p21 p22 p23
  go_wp2_with fail
  refine (R1.out _ H3.out.v1 H3.out.tabs).mono ?_
  rintro e w4 ⟨rfl, hb⟩
  have H4 := box (H3.out.later hb)
  clear hb
  go_wp2_with fail
  refine (R2.out _ H4.out.v2 H4.out.tabs).mono ?_
  rintro e w5 ⟨rfl, hb⟩
  have H5 := box (H4.out.later hb)
  clear hb
  go_wp2_with fail
  refine (R3.out _ H5.out.v3 H5.out.tabs).mono ?_
  rintro e w6 ⟨rfl, hb⟩
  have H6 := box (H5.out.later hb)
  clear hb
  have p00 : w6.cell? ⟨w.heap.size, 0, none⟩ = some (.int .u8 kk) := H6.out.b1.cell 0
  have p01 : w6.cell? ⟨w.heap.size, 1, none⟩ = some (.int .i64 ii) := H6.out.b1.cell 1
  have p02 : w6.cell? ⟨w.heap.size, 2, none⟩ = some (.int .u64 rr) := H6.out.b1.cell 2
  have p03 : w6.cell? ⟨w.heap.size, 3, none⟩ = some (.string tt) := H6.out.b1.cell 3
  have p10 : w6.cell? ⟨w.heap.size + 1, 0, none⟩ = some (.int .u8 k1) := H6.out.b2.cell 0
  have p11 : w6.cell? ⟨w.heap.size + 1, 1, none⟩ = some (.int .i64 i1) := H6.out.b2.cell 1
  have p12 : w6.cell? ⟨w.heap.size + 1, 2, none⟩ = some (.int .u64 r1) := H6.out.b2.cell 2
  have p13 : w6.cell? ⟨w.heap.size + 1, 3, none⟩ = some (.string t1) := H6.out.b2.cell 3
  have p20 : w6.cell? ⟨w.heap.size + 1 + 1, 0, none⟩ = some (.int .u8 k2) := H6.out.b3.cell 0
  have p21 : w6.cell? ⟨w.heap.size + 1 + 1, 1, none⟩ = some (.int .i64 i2) := H6.out.b3.cell 1
  have p22 : w6.cell? ⟨w.heap.size + 1 + 1, 2, none⟩ = some (.int .u64 r2) := H6.out.b3.cell 2
  have p23 : w6.cell? ⟨w.heap.size + 1 + 1, 3, none⟩ = some (.string t2) := H6.out.b3.cell 3
  go_wp2_with fail
  refine (L12.out _).mono ?_
  rintro e w7 ⟨rfl, hb⟩
  have H7 := box (H6.out.later hb)
  clear hb p00 p01 p02 p03 p10 p11 p12 p13 p20 p21 p22 p23
  have p00 : w7.cell? ⟨w.heap.size, 0, none⟩ = some (.int .u8 kk) := H7.out.b1.cell 0
  have p01 : w7.cell? ⟨w.heap.size, 1, none⟩ = some (.int .i64 ii) := H7.out.b1.cell 1
  have p02 : w7.cell? ⟨w.heap.size, 2, none⟩ = some (.int .u64 rr) := H7.out.b1.cell 2
  have p03 : w7.cell? ⟨w.heap.size, 3, none⟩ = some (.string tt) := H7.out.b1.cell 3
  have p10 : w7.cell? ⟨w.heap.size + 1, 0, none⟩ = some (.int .u8 k1) := H7.out.b2.cell 0
  have p11 : w7.cell? ⟨w.heap.size + 1, 1, none⟩ = some (.int .i64 i1) := H7.out.b2.cell 1
  have p12 : w7.cell? ⟨w.heap.size + 1, 2, none⟩ = some (.int .u64 r1) := H7.out.b2.cell 2
  have p13 : w7.cell? ⟨w.heap.size + 1, 3, none⟩ = some (.string t1) := H7.out.b2.cell 3
  have p20 : w7.cell? ⟨w.heap.size + 1 + 1, 0, none⟩ = some (.int .u8 k2) := H7.out.b3.cell 0
  have p21 : w7.cell? ⟨w.heap.size + 1 + 1, 1, none⟩ = some (.int .i64 i2) := H7.out.b3.cell 1
  have p22 : w7.cell? ⟨w.heap.size + 1 + 1, 2, none⟩ = some (.int .u64 r2) := H7.out.b3.cell 2
  have p23 : w7.cell? ⟨w.heap.size + 1 + 1, 3, none⟩ = some (.string t2) := H7.out.b3.cell 3
  go_wp2_with fail
  refine (L21.out _).mono ?_
  rintro e w8 ⟨rfl, hb⟩
  have H8 := box (H7.out.later hb)
  clear hb p00 p01 p02 p03 p10 p11 p12 p13 p20 p21 p22 p23
  have p00 : w8.cell? ⟨w.heap.size, 0, none⟩ = some (.int .u8 kk) := H8.out.b1.cell 0
  have p01 : w8.cell? ⟨w.heap.size, 1, none⟩ = some (.int .i64 ii) := H8.out.b1.cell 1
  have p02 : w8.cell? ⟨w.heap.size, 2, none⟩ = some (.int .u64 rr) := H8.out.b1.cell 2
  have p03 : w8.cell? ⟨w.heap.size, 3, none⟩ = some (.string tt) := H8.out.b1.cell 3
  have p10 : w8.cell? ⟨w.heap.size + 1, 0, none⟩ = some (.int .u8 k1) := H8.out.b2.cell 0
  have p11 : w8.cell? ⟨w.heap.size + 1, 1, none⟩ = some (.int .i64 i1) := H8.out.b2.cell 1
  have p12 : w8.cell? ⟨w.heap.size + 1, 2, none⟩ = some (.int .u64 r1) := H8.out.b2.cell 2
  have p13 : w8.cell? ⟨w.heap.size + 1, 3, none⟩ = some (.string t1) := H8.out.b2.cell 3
  have p20 : w8.cell? ⟨w.heap.size + 1 + 1, 0, none⟩ = some (.int .u8 k2) := H8.out.b3.cell 0
  have p21 : w8.cell? ⟨w.heap.size + 1 + 1, 1, none⟩ = some (.int .i64 i2) := H8.out.b3.cell 1
  have p22 : w8.cell? ⟨w.heap.size + 1 + 1, 2, none⟩ = some (.int .u64 r2) := H8.out.b3.cell 2
  have p23 : w8.cell? ⟨w.heap.size + 1 + 1, 3, none⟩ = some (.string t2) := H8.out.b3.cell 3
  go_wp2_with fail
  refine (L12.out _).mono ?_
  rintro e w9 ⟨rfl, hb⟩
  have H9 := box (H8.out.later hb)
  clear hb p00 p01 p02 p03 p10 p11 p12 p13 p20 p21 p22 p23
  have p00 : w9.cell? ⟨w.heap.size, 0, none⟩ = some (.int .u8 kk) := H9.out.b1.cell 0
  have p01 : w9.cell? ⟨w.heap.size, 1, none⟩ = some (.int .i64 ii) := H9.out.b1.cell 1
  have p02 : w9.cell? ⟨w.heap.size, 2, none⟩ = some (.int .u64 rr) := H9.out.b1.cell 2
  have p03 : w9.cell? ⟨w.heap.size, 3, none⟩ = some (.string tt) := H9.out.b1.cell 3
  have p10 : w9.cell? ⟨w.heap.size + 1, 0, none⟩ = some (.int .u8 k1) := H9.out.b2.cell 0
  have p11 : w9.cell? ⟨w.heap.size + 1, 1, none⟩ = some (.int .i64 i1) := H9.out.b2.cell 1
  have p12 : w9.cell? ⟨w.heap.size + 1, 2, none⟩ = some (.int .u64 r1) := H9.out.b2.cell 2
  have p13 : w9.cell? ⟨w.heap.size + 1, 3, none⟩ = some (.string t1) := H9.out.b2.cell 3
  have p20 : w9.cell? ⟨w.heap.size + 1 + 1, 0, none⟩ = some (.int .u8 k2) := H9.out.b3.cell 0
  have p21 : w9.cell? ⟨w.heap.size + 1 + 1, 1, none⟩ = some (.int .i64 i2) := H9.out.b3.cell 1
  have p22 : w9.cell? ⟨w.heap.size + 1 + 1, 2, none⟩ = some (.int .u64 r2) := H9.out.b3.cell 2
  have p23 : w9.cell? ⟨w.heap.size + 1 + 1, 3, none⟩ = some (.string t2) := H9.out.b3.cell 3
  go_wp2_with fail
  refine (L23.out _).mono ?_
  rintro e w10 ⟨rfl, hb⟩
  have H10 := box (H9.out.later hb)
  clear hb p00 p01 p02 p03 p10 p11 p12 p13 p20 p21 p22 p23
  have p00 : w10.cell? ⟨w.heap.size, 0, none⟩ = some (.int .u8 kk) := H10.out.b1.cell 0
  have p01 : w10.cell? ⟨w.heap.size, 1, none⟩ = some (.int .i64 ii) := H10.out.b1.cell 1
  have p02 : w10.cell? ⟨w.heap.size, 2, none⟩ = some (.int .u64 rr) := H10.out.b1.cell 2
  have p03 : w10.cell? ⟨w.heap.size, 3, none⟩ = some (.string tt) := H10.out.b1.cell 3
  have p10 : w10.cell? ⟨w.heap.size + 1, 0, none⟩ = some (.int .u8 k1) := H10.out.b2.cell 0
  have p11 : w10.cell? ⟨w.heap.size + 1, 1, none⟩ = some (.int .i64 i1) := H10.out.b2.cell 1
  have p12 : w10.cell? ⟨w.heap.size + 1, 2, none⟩ = some (.int .u64 r1) := H10.out.b2.cell 2
  have p13 : w10.cell? ⟨w.heap.size + 1, 3, none⟩ = some (.string t1) := H10.out.b2.cell 3
  have p20 : w10.cell? ⟨w.heap.size + 1 + 1, 0, none⟩ = some (.int .u8 k2) := H10.out.b3.cell 0
  have p21 : w10.cell? ⟨w.heap.size + 1 + 1, 1, none⟩ = some (.int .i64 i2) := H10.out.b3.cell 1
  have p22 : w10.cell? ⟨w.heap.size + 1 + 1, 2, none⟩ = some (.int .u64 r2) := H10.out.b3.cell 2
  have p23 : w10.cell? ⟨w.heap.size + 1 + 1, 3, none⟩ = some (.string t2) := H10.out.b3.cell 3
  go_wp2_with fail
  refine (P12.out _ H10.out.v1 H10.out.v2).mono ?_
  rintro e w11 ⟨rfl, hb⟩
  have H11 := box (H10.out.later hb)
  clear hb p00 p01 p02 p03 p10 p11 p12 p13 p20 p21 p22 p23
  go_wp2_with fail
  refine (P21.out _ H11.out.v2 H11.out.v1).mono ?_
  rintro e w12 ⟨rfl, hb⟩
  have H12 := box (H11.out.later hb)
  clear hb
  go_wp2_with fail
  refine (S12.out _ H12.out.v1 H12.out.v2).mono ?_
  rintro e w13 ⟨rfl, hb⟩
  have H13 := box (H12.out.later hb)
  clear hb
  go_wp2_with fail
  refine (P12.out _ H13.out.v1 H13.out.v2).mono ?_
  rintro e w14 ⟨rfl, hb⟩
  have H14 := box (H13.out.later hb)
  clear hb
  go_wp2_with fail
  refine (alive04 _ H14.out.tabs).mono ?_
  rintro e w15 ⟨rfl, hb⟩
  have H15 := box (H14.out.later hb)
  clear hb
  go_wp2_with fail
  go_ret
  exact ⟨rfl, H15.out.below⟩

set_option maxHeartbeats 8000000 in
theorem line_main_ad (kk k1 k2 : Nat) (ii i1 i2 : Int) (rr r1 r2 : Nat) (tt t1 t2 : ByteArray) (a b c : Option Addr) (n m o ca cb cc : Nat) (l k j : List Val) (w : World) (hT : Tabs w) (hv1 : Vals w a n l) (hv2 : Vals w b m k) (hv3 : Vals w c o j)
    (K1 : Box (∀ W, Tabs W → Calls Tryd.prog 14 #[.agg #[.int .u8 kk, .int .i64 ii, .int .u64 rr, .string tt]] W fun e w' => e = .returned (.int .i64 0) ∧ Below W.heap.size W w')) (K2 : Box (∀ W, Tabs W → Calls Tryd.prog 14 #[.agg #[.int .u8 k1, .int .i64 i1, .int .u64 r1, .string t1]] W fun e w' => e = .returned (.int .i64 0) ∧ Below W.heap.size W w')) (K3 : Box (∀ W, Tabs W → Calls Tryd.prog 14 #[.agg #[.int .u8 k2, .int .i64 i2, .int .u64 r2, .string t2]] W fun e w' => e = .returned (.int .i64 0) ∧ Below W.heap.size W w')) (R1 : Box (∀ W, Vals W a n l → Tabs W → Calls Tryd.prog 16 #[.slice a n ca] W fun e w' => e = .returned (.int .i64 0) ∧ Below W.heap.size W w')) (R2 : Box (∀ W, Vals W b m k → Tabs W → Calls Tryd.prog 16 #[.slice b m cb] W fun e w' => e = .returned (.int .i64 0) ∧ Below W.heap.size W w')) (R3 : Box (∀ W, Vals W c o j → Tabs W → Calls Tryd.prog 16 #[.slice c o cc] W fun e w' => e = .returned (.int .i64 0) ∧ Below W.heap.size W w'))
    (L12 : Box (∀ W, Calls Tryd.prog 28 #[.agg #[.int .u8 kk, .int .i64 ii, .int .u64 rr, .string tt], .agg #[.int .u8 k1, .int .i64 i1, .int .u64 r1, .string t1]] W fun e w' => e = .returned (.bool true) ∧ Below W.heap.size W w')) (L21 : Box (∀ W, Calls Tryd.prog 28 #[.agg #[.int .u8 k1, .int .i64 i1, .int .u64 r1, .string t1], .agg #[.int .u8 kk, .int .i64 ii, .int .u64 rr, .string tt]] W fun e w' => e = .returned (.bool false) ∧ Below W.heap.size W w')) (EQ : ∀ w, (Op.equalIn 10000 24 (.agg #[.int .u8 kk, .int .i64 ii, .int .u64 rr, .string tt]) (.agg #[.int .u8 k1, .int .i64 i1, .int .u64 r1, .string t1])).run Tryd.prog w = .ok false w) (L23 : Box (∀ W, Calls Tryd.prog 28 #[.agg #[.int .u8 k1, .int .i64 i1, .int .u64 r1, .string t1], .agg #[.int .u8 k2, .int .i64 i2, .int .u64 r2, .string t2]] W fun e w' => e = .returned (.bool false) ∧ Below W.heap.size W w'))
    (P12 : Box (∀ W, Vals W a n l → Vals W b m k → Calls Tryd.prog 30 #[.slice a n ca, .slice b m cb] W fun e w' => e = .returned (.bool false) ∧ Below W.heap.size W w')) (P21 : Box (∀ W, Vals W b m k → Vals W a n l → Calls Tryd.prog 30 #[.slice b m cb, .slice a n ca] W fun e w' => e = .returned (.bool false) ∧ Below W.heap.size W w')) (S12 : Box (∀ W, Vals W a n l → Vals W b m k → Calls Tryd.prog 31 #[.slice a n ca, .slice b m cb] W fun e w' => e = .returned (.bool true) ∧ Below W.heap.size W w')) :
    Calls Tryd.prog 6 #[.agg #[.int .u8 kk, .int .i64 ii, .int .u64 rr, .string tt], .agg #[.int .u8 k1, .int .i64 i1, .int .u64 r1, .string t1], .agg #[.int .u8 k2, .int .i64 i2, .int .u64 r2, .string t2], .slice a n ca, .slice b m cb, .slice c o cc] w fun e w' => e = .returned (.bool true) ∧ Below w.heap.size w w' := by
  have HT := box hT
  have V1 := box hv1
  have V2 := box hv2
  have V3 := box hv3
  clear hT hv1 hv2 hv3
  go_enter Tryd.func6, Tryd.ntmps6
  go_wp2_with fail
  obtain ⟨W, hW, hb, P, Q, R⟩ := three_boxes w #[.int .u8 kk, .int .i64 ii, .int .u64 rr, .string tt] #[.int .u8 k1, .int .i64 i1, .int .u64 r1, .string t1] #[.int .u8 k2, .int .i64 i2, .int .u64 r2, .string t2]
  have H0 : Box (Here w W ⟨kk, ii, rr, tt⟩ ⟨k1, i1, r1, t1⟩ ⟨k2, i2, r2, t2⟩ a b c n m o l k j) := box ⟨hb, HT.out.below hb, P, Q, R, vals_below V1.out hb, vals_below V2.out hb, vals_below V3.out hb⟩
  rw [hW]
  clear hW hb P Q R
  refine (K1.out _ H0.out.tabs).mono ?_
  rintro e w1 ⟨rfl, hb⟩
  have H1 := box (H0.out.later hb)
  clear hb
  have p00 : w1.cell? ⟨w.heap.size, 0, none⟩ = some (.int .u8 kk) := H1.out.b1.cell 0
  have p01 : w1.cell? ⟨w.heap.size, 1, none⟩ = some (.int .i64 ii) := H1.out.b1.cell 1
  have p02 : w1.cell? ⟨w.heap.size, 2, none⟩ = some (.int .u64 rr) := H1.out.b1.cell 2
  have p03 : w1.cell? ⟨w.heap.size, 3, none⟩ = some (.string tt) := H1.out.b1.cell 3
  have p10 : w1.cell? ⟨w.heap.size + 1, 0, none⟩ = some (.int .u8 k1) := H1.out.b2.cell 0
  have p11 : w1.cell? ⟨w.heap.size + 1, 1, none⟩ = some (.int .i64 i1) := H1.out.b2.cell 1
  have p12 : w1.cell? ⟨w.heap.size + 1, 2, none⟩ = some (.int .u64 r1) := H1.out.b2.cell 2
  have p13 : w1.cell? ⟨w.heap.size + 1, 3, none⟩ = some (.string t1) := H1.out.b2.cell 3
  have p20 : w1.cell? ⟨w.heap.size + 1 + 1, 0, none⟩ = some (.int .u8 k2) := H1.out.b3.cell 0
  have p21 : w1.cell? ⟨w.heap.size + 1 + 1, 1, none⟩ = some (.int .i64 i2) := H1.out.b3.cell 1
  have p22 : w1.cell? ⟨w.heap.size + 1 + 1, 2, none⟩ = some (.int .u64 r2) := H1.out.b3.cell 2
  have p23 : w1.cell? ⟨w.heap.size + 1 + 1, 3, none⟩ = some (.string t2) := H1.out.b3.cell 3
  go_wp2_with fail
  refine (K2.out _ H1.out.tabs).mono ?_
  rintro e w2 ⟨rfl, hb⟩
  have H2 := box (H1.out.later hb)
  clear hb p00 p01 p02 p03 p10 p11 p12 p13 p20 p21 p22 p23
  have p00 : w2.cell? ⟨w.heap.size, 0, none⟩ = some (.int .u8 kk) := H2.out.b1.cell 0
  have p01 : w2.cell? ⟨w.heap.size, 1, none⟩ = some (.int .i64 ii) := H2.out.b1.cell 1
  have p02 : w2.cell? ⟨w.heap.size, 2, none⟩ = some (.int .u64 rr) := H2.out.b1.cell 2
  have p03 : w2.cell? ⟨w.heap.size, 3, none⟩ = some (.string tt) := H2.out.b1.cell 3
  have p10 : w2.cell? ⟨w.heap.size + 1, 0, none⟩ = some (.int .u8 k1) := H2.out.b2.cell 0
  have p11 : w2.cell? ⟨w.heap.size + 1, 1, none⟩ = some (.int .i64 i1) := H2.out.b2.cell 1
  have p12 : w2.cell? ⟨w.heap.size + 1, 2, none⟩ = some (.int .u64 r1) := H2.out.b2.cell 2
  have p13 : w2.cell? ⟨w.heap.size + 1, 3, none⟩ = some (.string t1) := H2.out.b2.cell 3
  have p20 : w2.cell? ⟨w.heap.size + 1 + 1, 0, none⟩ = some (.int .u8 k2) := H2.out.b3.cell 0
  have p21 : w2.cell? ⟨w.heap.size + 1 + 1, 1, none⟩ = some (.int .i64 i2) := H2.out.b3.cell 1
  have p22 : w2.cell? ⟨w.heap.size + 1 + 1, 2, none⟩ = some (.int .u64 r2) := H2.out.b3.cell 2
  have p23 : w2.cell? ⟨w.heap.size + 1 + 1, 3, none⟩ = some (.string t2) := H2.out.b3.cell 3
  go_wp2_with fail
  refine (K3.out _ H2.out.tabs).mono ?_
  rintro e w3 ⟨rfl, hb⟩
  have H3 := box (H2.out.later hb)
  clear hb p00 p01 p02 p03 p10 p11 p12 p13 p20 p21 p22 p23
  go_wp2_with fail
  refine (R1.out _ H3.out.v1 H3.out.tabs).mono ?_
  rintro e w4 ⟨rfl, hb⟩
  have H4 := box (H3.out.later hb)
  clear hb
  go_wp2_with fail
  refine (R2.out _ H4.out.v2 H4.out.tabs).mono ?_
  rintro e w5 ⟨rfl, hb⟩
  have H5 := box (H4.out.later hb)
  clear hb
  go_wp2_with fail
  refine (R3.out _ H5.out.v3 H5.out.tabs).mono ?_
  rintro e w6 ⟨rfl, hb⟩
  have H6 := box (H5.out.later hb)
  clear hb
  have p00 : w6.cell? ⟨w.heap.size, 0, none⟩ = some (.int .u8 kk) := H6.out.b1.cell 0
  have p01 : w6.cell? ⟨w.heap.size, 1, none⟩ = some (.int .i64 ii) := H6.out.b1.cell 1
  have p02 : w6.cell? ⟨w.heap.size, 2, none⟩ = some (.int .u64 rr) := H6.out.b1.cell 2
  have p03 : w6.cell? ⟨w.heap.size, 3, none⟩ = some (.string tt) := H6.out.b1.cell 3
  have p10 : w6.cell? ⟨w.heap.size + 1, 0, none⟩ = some (.int .u8 k1) := H6.out.b2.cell 0
  have p11 : w6.cell? ⟨w.heap.size + 1, 1, none⟩ = some (.int .i64 i1) := H6.out.b2.cell 1
  have p12 : w6.cell? ⟨w.heap.size + 1, 2, none⟩ = some (.int .u64 r1) := H6.out.b2.cell 2
  have p13 : w6.cell? ⟨w.heap.size + 1, 3, none⟩ = some (.string t1) := H6.out.b2.cell 3
  have p20 : w6.cell? ⟨w.heap.size + 1 + 1, 0, none⟩ = some (.int .u8 k2) := H6.out.b3.cell 0
  have p21 : w6.cell? ⟨w.heap.size + 1 + 1, 1, none⟩ = some (.int .i64 i2) := H6.out.b3.cell 1
  have p22 : w6.cell? ⟨w.heap.size + 1 + 1, 2, none⟩ = some (.int .u64 r2) := H6.out.b3.cell 2
  have p23 : w6.cell? ⟨w.heap.size + 1 + 1, 3, none⟩ = some (.string t2) := H6.out.b3.cell 3
  go_wp2_with fail
  refine (L12.out _).mono ?_
  rintro e w7 ⟨rfl, hb⟩
  have H7 := box (H6.out.later hb)
  clear hb p00 p01 p02 p03 p10 p11 p12 p13 p20 p21 p22 p23
  have p00 : w7.cell? ⟨w.heap.size, 0, none⟩ = some (.int .u8 kk) := H7.out.b1.cell 0
  have p01 : w7.cell? ⟨w.heap.size, 1, none⟩ = some (.int .i64 ii) := H7.out.b1.cell 1
  have p02 : w7.cell? ⟨w.heap.size, 2, none⟩ = some (.int .u64 rr) := H7.out.b1.cell 2
  have p03 : w7.cell? ⟨w.heap.size, 3, none⟩ = some (.string tt) := H7.out.b1.cell 3
  have p10 : w7.cell? ⟨w.heap.size + 1, 0, none⟩ = some (.int .u8 k1) := H7.out.b2.cell 0
  have p11 : w7.cell? ⟨w.heap.size + 1, 1, none⟩ = some (.int .i64 i1) := H7.out.b2.cell 1
  have p12 : w7.cell? ⟨w.heap.size + 1, 2, none⟩ = some (.int .u64 r1) := H7.out.b2.cell 2
  have p13 : w7.cell? ⟨w.heap.size + 1, 3, none⟩ = some (.string t1) := H7.out.b2.cell 3
  have p20 : w7.cell? ⟨w.heap.size + 1 + 1, 0, none⟩ = some (.int .u8 k2) := H7.out.b3.cell 0
  have p21 : w7.cell? ⟨w.heap.size + 1 + 1, 1, none⟩ = some (.int .i64 i2) := H7.out.b3.cell 1
  have p22 : w7.cell? ⟨w.heap.size + 1 + 1, 2, none⟩ = some (.int .u64 r2) := H7.out.b3.cell 2
  have p23 : w7.cell? ⟨w.heap.size + 1 + 1, 3, none⟩ = some (.string t2) := H7.out.b3.cell 3
  go_wp2_with fail
  refine (L21.out _).mono ?_
  rintro e w8 ⟨rfl, hb⟩
  have H8 := box (H7.out.later hb)
  clear hb p00 p01 p02 p03 p10 p11 p12 p13 p20 p21 p22 p23
  have p00 : w8.cell? ⟨w.heap.size, 0, none⟩ = some (.int .u8 kk) := H8.out.b1.cell 0
  have p01 : w8.cell? ⟨w.heap.size, 1, none⟩ = some (.int .i64 ii) := H8.out.b1.cell 1
  have p02 : w8.cell? ⟨w.heap.size, 2, none⟩ = some (.int .u64 rr) := H8.out.b1.cell 2
  have p03 : w8.cell? ⟨w.heap.size, 3, none⟩ = some (.string tt) := H8.out.b1.cell 3
  have p10 : w8.cell? ⟨w.heap.size + 1, 0, none⟩ = some (.int .u8 k1) := H8.out.b2.cell 0
  have p11 : w8.cell? ⟨w.heap.size + 1, 1, none⟩ = some (.int .i64 i1) := H8.out.b2.cell 1
  have p12 : w8.cell? ⟨w.heap.size + 1, 2, none⟩ = some (.int .u64 r1) := H8.out.b2.cell 2
  have p13 : w8.cell? ⟨w.heap.size + 1, 3, none⟩ = some (.string t1) := H8.out.b2.cell 3
  have p20 : w8.cell? ⟨w.heap.size + 1 + 1, 0, none⟩ = some (.int .u8 k2) := H8.out.b3.cell 0
  have p21 : w8.cell? ⟨w.heap.size + 1 + 1, 1, none⟩ = some (.int .i64 i2) := H8.out.b3.cell 1
  have p22 : w8.cell? ⟨w.heap.size + 1 + 1, 2, none⟩ = some (.int .u64 r2) := H8.out.b3.cell 2
  have p23 : w8.cell? ⟨w.heap.size + 1 + 1, 3, none⟩ = some (.string t2) := H8.out.b3.cell 3
  go_wp2_with fail
  refine (L12.out _).mono ?_
  rintro e w9 ⟨rfl, hb⟩
  have H9 := box (H8.out.later hb)
  clear hb p00 p01 p02 p03 p10 p11 p12 p13 p20 p21 p22 p23
  have p00 : w9.cell? ⟨w.heap.size, 0, none⟩ = some (.int .u8 kk) := H9.out.b1.cell 0
  have p01 : w9.cell? ⟨w.heap.size, 1, none⟩ = some (.int .i64 ii) := H9.out.b1.cell 1
  have p02 : w9.cell? ⟨w.heap.size, 2, none⟩ = some (.int .u64 rr) := H9.out.b1.cell 2
  have p03 : w9.cell? ⟨w.heap.size, 3, none⟩ = some (.string tt) := H9.out.b1.cell 3
  have p10 : w9.cell? ⟨w.heap.size + 1, 0, none⟩ = some (.int .u8 k1) := H9.out.b2.cell 0
  have p11 : w9.cell? ⟨w.heap.size + 1, 1, none⟩ = some (.int .i64 i1) := H9.out.b2.cell 1
  have p12 : w9.cell? ⟨w.heap.size + 1, 2, none⟩ = some (.int .u64 r1) := H9.out.b2.cell 2
  have p13 : w9.cell? ⟨w.heap.size + 1, 3, none⟩ = some (.string t1) := H9.out.b2.cell 3
  have p20 : w9.cell? ⟨w.heap.size + 1 + 1, 0, none⟩ = some (.int .u8 k2) := H9.out.b3.cell 0
  have p21 : w9.cell? ⟨w.heap.size + 1 + 1, 1, none⟩ = some (.int .i64 i2) := H9.out.b3.cell 1
  have p22 : w9.cell? ⟨w.heap.size + 1 + 1, 2, none⟩ = some (.int .u64 r2) := H9.out.b3.cell 2
  have p23 : w9.cell? ⟨w.heap.size + 1 + 1, 3, none⟩ = some (.string t2) := H9.out.b3.cell 3
  go_wp2_with fail
  refine (L23.out _).mono ?_
  rintro e w10 ⟨rfl, hb⟩
  have H10 := box (H9.out.later hb)
  clear hb p00 p01 p02 p03 p10 p11 p12 p13 p20 p21 p22 p23
  have p00 : w10.cell? ⟨w.heap.size, 0, none⟩ = some (.int .u8 kk) := H10.out.b1.cell 0
  have p01 : w10.cell? ⟨w.heap.size, 1, none⟩ = some (.int .i64 ii) := H10.out.b1.cell 1
  have p02 : w10.cell? ⟨w.heap.size, 2, none⟩ = some (.int .u64 rr) := H10.out.b1.cell 2
  have p03 : w10.cell? ⟨w.heap.size, 3, none⟩ = some (.string tt) := H10.out.b1.cell 3
  have p10 : w10.cell? ⟨w.heap.size + 1, 0, none⟩ = some (.int .u8 k1) := H10.out.b2.cell 0
  have p11 : w10.cell? ⟨w.heap.size + 1, 1, none⟩ = some (.int .i64 i1) := H10.out.b2.cell 1
  have p12 : w10.cell? ⟨w.heap.size + 1, 2, none⟩ = some (.int .u64 r1) := H10.out.b2.cell 2
  have p13 : w10.cell? ⟨w.heap.size + 1, 3, none⟩ = some (.string t1) := H10.out.b2.cell 3
  have p20 : w10.cell? ⟨w.heap.size + 1 + 1, 0, none⟩ = some (.int .u8 k2) := H10.out.b3.cell 0
  have p21 : w10.cell? ⟨w.heap.size + 1 + 1, 1, none⟩ = some (.int .i64 i2) := H10.out.b3.cell 1
  have p22 : w10.cell? ⟨w.heap.size + 1 + 1, 2, none⟩ = some (.int .u64 r2) := H10.out.b3.cell 2
  have p23 : w10.cell? ⟨w.heap.size + 1 + 1, 3, none⟩ = some (.string t2) := H10.out.b3.cell 3
  go_wp2_with fail
  refine (P12.out _ H10.out.v1 H10.out.v2).mono ?_
  rintro e w11 ⟨rfl, hb⟩
  have H11 := box (H10.out.later hb)
  clear hb p00 p01 p02 p03 p10 p11 p12 p13 p20 p21 p22 p23
  go_wp2_with fail
  refine (P21.out _ H11.out.v2 H11.out.v1).mono ?_
  rintro e w12 ⟨rfl, hb⟩
  have H12 := box (H11.out.later hb)
  clear hb
  go_wp2_with fail
  refine (S12.out _ H12.out.v1 H12.out.v2).mono ?_
  rintro e w13 ⟨rfl, hb⟩
  have H13 := box (H12.out.later hb)
  clear hb
  go_wp2_with fail
  refine (P12.out _ H13.out.v1 H13.out.v2).mono ?_
  rintro e w14 ⟨rfl, hb⟩
  have H14 := box (H13.out.later hb)
  clear hb
  go_wp2_with fail
  refine (alive04 _ H14.out.tabs).mono ?_
  rintro e w15 ⟨rfl, hb⟩
  have H15 := box (H14.out.later hb)
  clear hb
  go_wp2_with fail
  go_ret
  exact ⟨rfl, H15.out.below⟩

set_option maxHeartbeats 8000000 in
theorem line_main_ba (kk k1 k2 : Nat) (ii i1 i2 : Int) (rr r1 r2 : Nat) (tt t1 t2 : ByteArray) (a b c : Option Addr) (n m o ca cb cc : Nat) (l k j : List Val) (w : World) (hT : Tabs w) (hv1 : Vals w a n l) (hv2 : Vals w b m k) (hv3 : Vals w c o j)
    (K1 : Box (∀ W, Tabs W → Calls Tryd.prog 14 #[.agg #[.int .u8 kk, .int .i64 ii, .int .u64 rr, .string tt]] W fun e w' => e = .returned (.int .i64 0) ∧ Below W.heap.size W w')) (K2 : Box (∀ W, Tabs W → Calls Tryd.prog 14 #[.agg #[.int .u8 k1, .int .i64 i1, .int .u64 r1, .string t1]] W fun e w' => e = .returned (.int .i64 0) ∧ Below W.heap.size W w')) (K3 : Box (∀ W, Tabs W → Calls Tryd.prog 14 #[.agg #[.int .u8 k2, .int .i64 i2, .int .u64 r2, .string t2]] W fun e w' => e = .returned (.int .i64 0) ∧ Below W.heap.size W w')) (R1 : Box (∀ W, Vals W a n l → Tabs W → Calls Tryd.prog 16 #[.slice a n ca] W fun e w' => e = .returned (.int .i64 0) ∧ Below W.heap.size W w')) (R2 : Box (∀ W, Vals W b m k → Tabs W → Calls Tryd.prog 16 #[.slice b m cb] W fun e w' => e = .returned (.int .i64 0) ∧ Below W.heap.size W w')) (R3 : Box (∀ W, Vals W c o j → Tabs W → Calls Tryd.prog 16 #[.slice c o cc] W fun e w' => e = .returned (.int .i64 0) ∧ Below W.heap.size W w'))
    (L12 : Box (∀ W, Calls Tryd.prog 28 #[.agg #[.int .u8 kk, .int .i64 ii, .int .u64 rr, .string tt], .agg #[.int .u8 k1, .int .i64 i1, .int .u64 r1, .string t1]] W fun e w' => e = .returned (.bool true) ∧ Below W.heap.size W w')) (L21 : Box (∀ W, Calls Tryd.prog 28 #[.agg #[.int .u8 k1, .int .i64 i1, .int .u64 r1, .string t1], .agg #[.int .u8 kk, .int .i64 ii, .int .u64 rr, .string tt]] W fun e w' => e = .returned (.bool false) ∧ Below W.heap.size W w')) (EQ : ∀ w, (Op.equalIn 10000 24 (.agg #[.int .u8 kk, .int .i64 ii, .int .u64 rr, .string tt]) (.agg #[.int .u8 k1, .int .i64 i1, .int .u64 r1, .string t1])).run Tryd.prog w = .ok false w) (L23 : Box (∀ W, Calls Tryd.prog 28 #[.agg #[.int .u8 k1, .int .i64 i1, .int .u64 r1, .string t1], .agg #[.int .u8 k2, .int .i64 i2, .int .u64 r2, .string t2]] W fun e w' => e = .returned (.bool true) ∧ Below W.heap.size W w')) (L13 : Box (∀ W, Calls Tryd.prog 28 #[.agg #[.int .u8 kk, .int .i64 ii, .int .u64 rr, .string tt], .agg #[.int .u8 k2, .int .i64 i2, .int .u64 r2, .string t2]] W fun e w' => e = .returned (.bool true) ∧ Below W.heap.size W w'))
    (P12 : Box (∀ W, Vals W a n l → Vals W b m k → Calls Tryd.prog 30 #[.slice a n ca, .slice b m cb] W fun e w' => e = .returned (.bool true) ∧ Below W.heap.size W w')) (P21 : Box (∀ W, Vals W b m k → Vals W a n l → Calls Tryd.prog 30 #[.slice b m cb, .slice a n ca] W fun e w' => e = .returned (.bool false) ∧ Below W.heap.size W w')) (S12 : Box (∀ W, Vals W a n l → Vals W b m k → Calls Tryd.prog 31 #[.slice a n ca, .slice b m cb] W fun e w' => e = .returned (.bool false) ∧ Below W.heap.size W w')) (P23 : Box (∀ W, Vals W b m k → Vals W c o j → Calls Tryd.prog 30 #[.slice b m cb, .slice c o cc] W fun e w' => e = .returned (.bool false) ∧ Below W.heap.size W w')) :
    Calls Tryd.prog 6 #[.agg #[.int .u8 kk, .int .i64 ii, .int .u64 rr, .string tt], .agg #[.int .u8 k1, .int .i64 i1, .int .u64 r1, .string t1], .agg #[.int .u8 k2, .int .i64 i2, .int .u64 r2, .string t2], .slice a n ca, .slice b m cb, .slice c o cc] w fun e w' => e = .returned (.bool true) ∧ Below w.heap.size w w' := by
  have HT := box hT
  have V1 := box hv1
  have V2 := box hv2
  have V3 := box hv3
  clear hT hv1 hv2 hv3
  go_enter Tryd.func6, Tryd.ntmps6
  go_wp2_with fail
  obtain ⟨W, hW, hb, P, Q, R⟩ := three_boxes w #[.int .u8 kk, .int .i64 ii, .int .u64 rr, .string tt] #[.int .u8 k1, .int .i64 i1, .int .u64 r1, .string t1] #[.int .u8 k2, .int .i64 i2, .int .u64 r2, .string t2]
  have H0 : Box (Here w W ⟨kk, ii, rr, tt⟩ ⟨k1, i1, r1, t1⟩ ⟨k2, i2, r2, t2⟩ a b c n m o l k j) := box ⟨hb, HT.out.below hb, P, Q, R, vals_below V1.out hb, vals_below V2.out hb, vals_below V3.out hb⟩
  rw [hW]
  clear hW hb P Q R
  refine (K1.out _ H0.out.tabs).mono ?_
  rintro e w1 ⟨rfl, hb⟩
  have H1 := box (H0.out.later hb)
  clear hb
  have p00 : w1.cell? ⟨w.heap.size, 0, none⟩ = some (.int .u8 kk) := H1.out.b1.cell 0
  have p01 : w1.cell? ⟨w.heap.size, 1, none⟩ = some (.int .i64 ii) := H1.out.b1.cell 1
  have p02 : w1.cell? ⟨w.heap.size, 2, none⟩ = some (.int .u64 rr) := H1.out.b1.cell 2
  have p03 : w1.cell? ⟨w.heap.size, 3, none⟩ = some (.string tt) := H1.out.b1.cell 3
  have p10 : w1.cell? ⟨w.heap.size + 1, 0, none⟩ = some (.int .u8 k1) := H1.out.b2.cell 0
  have p11 : w1.cell? ⟨w.heap.size + 1, 1, none⟩ = some (.int .i64 i1) := H1.out.b2.cell 1
  have p12 : w1.cell? ⟨w.heap.size + 1, 2, none⟩ = some (.int .u64 r1) := H1.out.b2.cell 2
  have p13 : w1.cell? ⟨w.heap.size + 1, 3, none⟩ = some (.string t1) := H1.out.b2.cell 3
  have p20 : w1.cell? ⟨w.heap.size + 1 + 1, 0, none⟩ = some (.int .u8 k2) := H1.out.b3.cell 0
  have p21 : w1.cell? ⟨w.heap.size + 1 + 1, 1, none⟩ = some (.int .i64 i2) := H1.out.b3.cell 1
  have p22 : w1.cell? ⟨w.heap.size + 1 + 1, 2, none⟩ = some (.int .u64 r2) := H1.out.b3.cell 2
  have p23 : w1.cell? ⟨w.heap.size + 1 + 1, 3, none⟩ = some (.string t2) := H1.out.b3.cell 3
  go_wp2_with fail
  refine (K2.out _ H1.out.tabs).mono ?_
  rintro e w2 ⟨rfl, hb⟩
  have H2 := box (H1.out.later hb)
  clear hb p00 p01 p02 p03 p10 p11 p12 p13 p20 p21 p22 p23
  have p00 : w2.cell? ⟨w.heap.size, 0, none⟩ = some (.int .u8 kk) := H2.out.b1.cell 0
  have p01 : w2.cell? ⟨w.heap.size, 1, none⟩ = some (.int .i64 ii) := H2.out.b1.cell 1
  have p02 : w2.cell? ⟨w.heap.size, 2, none⟩ = some (.int .u64 rr) := H2.out.b1.cell 2
  have p03 : w2.cell? ⟨w.heap.size, 3, none⟩ = some (.string tt) := H2.out.b1.cell 3
  have p10 : w2.cell? ⟨w.heap.size + 1, 0, none⟩ = some (.int .u8 k1) := H2.out.b2.cell 0
  have p11 : w2.cell? ⟨w.heap.size + 1, 1, none⟩ = some (.int .i64 i1) := H2.out.b2.cell 1
  have p12 : w2.cell? ⟨w.heap.size + 1, 2, none⟩ = some (.int .u64 r1) := H2.out.b2.cell 2
  have p13 : w2.cell? ⟨w.heap.size + 1, 3, none⟩ = some (.string t1) := H2.out.b2.cell 3
  have p20 : w2.cell? ⟨w.heap.size + 1 + 1, 0, none⟩ = some (.int .u8 k2) := H2.out.b3.cell 0
  have p21 : w2.cell? ⟨w.heap.size + 1 + 1, 1, none⟩ = some (.int .i64 i2) := H2.out.b3.cell 1
  have p22 : w2.cell? ⟨w.heap.size + 1 + 1, 2, none⟩ = some (.int .u64 r2) := H2.out.b3.cell 2
  have p23 : w2.cell? ⟨w.heap.size + 1 + 1, 3, none⟩ = some (.string t2) := H2.out.b3.cell 3
  go_wp2_with fail
  refine (K3.out _ H2.out.tabs).mono ?_
  rintro e w3 ⟨rfl, hb⟩
  have H3 := box (H2.out.later hb)
  clear hb p00 p01 p02 p03 p10 p11 p12 p13 p20 p21 p22 p23
  go_wp2_with fail
  refine (R1.out _ H3.out.v1 H3.out.tabs).mono ?_
  rintro e w4 ⟨rfl, hb⟩
  have H4 := box (H3.out.later hb)
  clear hb
  go_wp2_with fail
  refine (R2.out _ H4.out.v2 H4.out.tabs).mono ?_
  rintro e w5 ⟨rfl, hb⟩
  have H5 := box (H4.out.later hb)
  clear hb
  go_wp2_with fail
  refine (R3.out _ H5.out.v3 H5.out.tabs).mono ?_
  rintro e w6 ⟨rfl, hb⟩
  have H6 := box (H5.out.later hb)
  clear hb
  have p00 : w6.cell? ⟨w.heap.size, 0, none⟩ = some (.int .u8 kk) := H6.out.b1.cell 0
  have p01 : w6.cell? ⟨w.heap.size, 1, none⟩ = some (.int .i64 ii) := H6.out.b1.cell 1
  have p02 : w6.cell? ⟨w.heap.size, 2, none⟩ = some (.int .u64 rr) := H6.out.b1.cell 2
  have p03 : w6.cell? ⟨w.heap.size, 3, none⟩ = some (.string tt) := H6.out.b1.cell 3
  have p10 : w6.cell? ⟨w.heap.size + 1, 0, none⟩ = some (.int .u8 k1) := H6.out.b2.cell 0
  have p11 : w6.cell? ⟨w.heap.size + 1, 1, none⟩ = some (.int .i64 i1) := H6.out.b2.cell 1
  have p12 : w6.cell? ⟨w.heap.size + 1, 2, none⟩ = some (.int .u64 r1) := H6.out.b2.cell 2
  have p13 : w6.cell? ⟨w.heap.size + 1, 3, none⟩ = some (.string t1) := H6.out.b2.cell 3
  have p20 : w6.cell? ⟨w.heap.size + 1 + 1, 0, none⟩ = some (.int .u8 k2) := H6.out.b3.cell 0
  have p21 : w6.cell? ⟨w.heap.size + 1 + 1, 1, none⟩ = some (.int .i64 i2) := H6.out.b3.cell 1
  have p22 : w6.cell? ⟨w.heap.size + 1 + 1, 2, none⟩ = some (.int .u64 r2) := H6.out.b3.cell 2
  have p23 : w6.cell? ⟨w.heap.size + 1 + 1, 3, none⟩ = some (.string t2) := H6.out.b3.cell 3
  go_wp2_with fail
  refine (L12.out _).mono ?_
  rintro e w7 ⟨rfl, hb⟩
  have H7 := box (H6.out.later hb)
  clear hb p00 p01 p02 p03 p10 p11 p12 p13 p20 p21 p22 p23
  have p00 : w7.cell? ⟨w.heap.size, 0, none⟩ = some (.int .u8 kk) := H7.out.b1.cell 0
  have p01 : w7.cell? ⟨w.heap.size, 1, none⟩ = some (.int .i64 ii) := H7.out.b1.cell 1
  have p02 : w7.cell? ⟨w.heap.size, 2, none⟩ = some (.int .u64 rr) := H7.out.b1.cell 2
  have p03 : w7.cell? ⟨w.heap.size, 3, none⟩ = some (.string tt) := H7.out.b1.cell 3
  have p10 : w7.cell? ⟨w.heap.size + 1, 0, none⟩ = some (.int .u8 k1) := H7.out.b2.cell 0
  have p11 : w7.cell? ⟨w.heap.size + 1, 1, none⟩ = some (.int .i64 i1) := H7.out.b2.cell 1
  have p12 : w7.cell? ⟨w.heap.size + 1, 2, none⟩ = some (.int .u64 r1) := H7.out.b2.cell 2
  have p13 : w7.cell? ⟨w.heap.size + 1, 3, none⟩ = some (.string t1) := H7.out.b2.cell 3
  have p20 : w7.cell? ⟨w.heap.size + 1 + 1, 0, none⟩ = some (.int .u8 k2) := H7.out.b3.cell 0
  have p21 : w7.cell? ⟨w.heap.size + 1 + 1, 1, none⟩ = some (.int .i64 i2) := H7.out.b3.cell 1
  have p22 : w7.cell? ⟨w.heap.size + 1 + 1, 2, none⟩ = some (.int .u64 r2) := H7.out.b3.cell 2
  have p23 : w7.cell? ⟨w.heap.size + 1 + 1, 3, none⟩ = some (.string t2) := H7.out.b3.cell 3
  go_wp2_with fail
  refine (L21.out _).mono ?_
  rintro e w8 ⟨rfl, hb⟩
  have H8 := box (H7.out.later hb)
  clear hb p00 p01 p02 p03 p10 p11 p12 p13 p20 p21 p22 p23
  have p00 : w8.cell? ⟨w.heap.size, 0, none⟩ = some (.int .u8 kk) := H8.out.b1.cell 0
  have p01 : w8.cell? ⟨w.heap.size, 1, none⟩ = some (.int .i64 ii) := H8.out.b1.cell 1
  have p02 : w8.cell? ⟨w.heap.size, 2, none⟩ = some (.int .u64 rr) := H8.out.b1.cell 2
  have p03 : w8.cell? ⟨w.heap.size, 3, none⟩ = some (.string tt) := H8.out.b1.cell 3
  have p10 : w8.cell? ⟨w.heap.size + 1, 0, none⟩ = some (.int .u8 k1) := H8.out.b2.cell 0
  have p11 : w8.cell? ⟨w.heap.size + 1, 1, none⟩ = some (.int .i64 i1) := H8.out.b2.cell 1
  have p12 : w8.cell? ⟨w.heap.size + 1, 2, none⟩ = some (.int .u64 r1) := H8.out.b2.cell 2
  have p13 : w8.cell? ⟨w.heap.size + 1, 3, none⟩ = some (.string t1) := H8.out.b2.cell 3
  have p20 : w8.cell? ⟨w.heap.size + 1 + 1, 0, none⟩ = some (.int .u8 k2) := H8.out.b3.cell 0
  have p21 : w8.cell? ⟨w.heap.size + 1 + 1, 1, none⟩ = some (.int .i64 i2) := H8.out.b3.cell 1
  have p22 : w8.cell? ⟨w.heap.size + 1 + 1, 2, none⟩ = some (.int .u64 r2) := H8.out.b3.cell 2
  have p23 : w8.cell? ⟨w.heap.size + 1 + 1, 3, none⟩ = some (.string t2) := H8.out.b3.cell 3
  go_wp2_with fail
  refine (L12.out _).mono ?_
  rintro e w9 ⟨rfl, hb⟩
  have H9 := box (H8.out.later hb)
  clear hb p00 p01 p02 p03 p10 p11 p12 p13 p20 p21 p22 p23
  have p00 : w9.cell? ⟨w.heap.size, 0, none⟩ = some (.int .u8 kk) := H9.out.b1.cell 0
  have p01 : w9.cell? ⟨w.heap.size, 1, none⟩ = some (.int .i64 ii) := H9.out.b1.cell 1
  have p02 : w9.cell? ⟨w.heap.size, 2, none⟩ = some (.int .u64 rr) := H9.out.b1.cell 2
  have p03 : w9.cell? ⟨w.heap.size, 3, none⟩ = some (.string tt) := H9.out.b1.cell 3
  have p10 : w9.cell? ⟨w.heap.size + 1, 0, none⟩ = some (.int .u8 k1) := H9.out.b2.cell 0
  have p11 : w9.cell? ⟨w.heap.size + 1, 1, none⟩ = some (.int .i64 i1) := H9.out.b2.cell 1
  have p12 : w9.cell? ⟨w.heap.size + 1, 2, none⟩ = some (.int .u64 r1) := H9.out.b2.cell 2
  have p13 : w9.cell? ⟨w.heap.size + 1, 3, none⟩ = some (.string t1) := H9.out.b2.cell 3
  have p20 : w9.cell? ⟨w.heap.size + 1 + 1, 0, none⟩ = some (.int .u8 k2) := H9.out.b3.cell 0
  have p21 : w9.cell? ⟨w.heap.size + 1 + 1, 1, none⟩ = some (.int .i64 i2) := H9.out.b3.cell 1
  have p22 : w9.cell? ⟨w.heap.size + 1 + 1, 2, none⟩ = some (.int .u64 r2) := H9.out.b3.cell 2
  have p23 : w9.cell? ⟨w.heap.size + 1 + 1, 3, none⟩ = some (.string t2) := H9.out.b3.cell 3
  go_wp2_with fail
  refine (L23.out _).mono ?_
  rintro e w10 ⟨rfl, hb⟩
  have H10 := box (H9.out.later hb)
  clear hb p00 p01 p02 p03 p10 p11 p12 p13 p20 p21 p22 p23
  have p00 : w10.cell? ⟨w.heap.size, 0, none⟩ = some (.int .u8 kk) := H10.out.b1.cell 0
  have p01 : w10.cell? ⟨w.heap.size, 1, none⟩ = some (.int .i64 ii) := H10.out.b1.cell 1
  have p02 : w10.cell? ⟨w.heap.size, 2, none⟩ = some (.int .u64 rr) := H10.out.b1.cell 2
  have p03 : w10.cell? ⟨w.heap.size, 3, none⟩ = some (.string tt) := H10.out.b1.cell 3
  have p10 : w10.cell? ⟨w.heap.size + 1, 0, none⟩ = some (.int .u8 k1) := H10.out.b2.cell 0
  have p11 : w10.cell? ⟨w.heap.size + 1, 1, none⟩ = some (.int .i64 i1) := H10.out.b2.cell 1
  have p12 : w10.cell? ⟨w.heap.size + 1, 2, none⟩ = some (.int .u64 r1) := H10.out.b2.cell 2
  have p13 : w10.cell? ⟨w.heap.size + 1, 3, none⟩ = some (.string t1) := H10.out.b2.cell 3
  have p20 : w10.cell? ⟨w.heap.size + 1 + 1, 0, none⟩ = some (.int .u8 k2) := H10.out.b3.cell 0
  have p21 : w10.cell? ⟨w.heap.size + 1 + 1, 1, none⟩ = some (.int .i64 i2) := H10.out.b3.cell 1
  have p22 : w10.cell? ⟨w.heap.size + 1 + 1, 2, none⟩ = some (.int .u64 r2) := H10.out.b3.cell 2
  have p23 : w10.cell? ⟨w.heap.size + 1 + 1, 3, none⟩ = some (.string t2) := H10.out.b3.cell 3
  go_wp2_with fail
  refine (L13.out _).mono ?_
  rintro e w11 ⟨rfl, hb⟩
  have H11 := box (H10.out.later hb)
  clear hb p00 p01 p02 p03 p10 p11 p12 p13 p20 p21 p22 p23
  go_wp2_with fail
  refine (P12.out _ H11.out.v1 H11.out.v2).mono ?_
  rintro e w12 ⟨rfl, hb⟩
  have H12 := box (H11.out.later hb)
  clear hb
  go_wp2_with fail
  refine (P21.out _ H12.out.v2 H12.out.v1).mono ?_
  rintro e w13 ⟨rfl, hb⟩
  have H13 := box (H12.out.later hb)
  clear hb
  go_wp2_with fail
  refine (S12.out _ H13.out.v1 H13.out.v2).mono ?_
  rintro e w14 ⟨rfl, hb⟩
  have H14 := box (H13.out.later hb)
  clear hb
  go_wp2_with fail
  refine (P12.out _ H14.out.v1 H14.out.v2).mono ?_
  rintro e w15 ⟨rfl, hb⟩
  have H15 := box (H14.out.later hb)
  clear hb
  go_wp2_with fail
  refine (P23.out _ H15.out.v2 H15.out.v3).mono ?_
  rintro e w16 ⟨rfl, hb⟩
  have H16 := box (H15.out.later hb)
  clear hb
  go_wp2_with fail
  refine (alive04 _ H16.out.tabs).mono ?_
  rintro e w17 ⟨rfl, hb⟩
  have H17 := box (H16.out.later hb)
  clear hb
  go_wp2_with fail
  go_ret
  exact ⟨rfl, H17.out.below⟩

set_option maxHeartbeats 8000000 in
theorem line_main_bb (kk k1 k2 : Nat) (ii i1 i2 : Int) (rr r1 r2 : Nat) (tt t1 t2 : ByteArray) (a b c : Option Addr) (n m o ca cb cc : Nat) (l k j : List Val) (w : World) (hT : Tabs w) (hv1 : Vals w a n l) (hv2 : Vals w b m k) (hv3 : Vals w c o j)
    (K1 : Box (∀ W, Tabs W → Calls Tryd.prog 14 #[.agg #[.int .u8 kk, .int .i64 ii, .int .u64 rr, .string tt]] W fun e w' => e = .returned (.int .i64 0) ∧ Below W.heap.size W w')) (K2 : Box (∀ W, Tabs W → Calls Tryd.prog 14 #[.agg #[.int .u8 k1, .int .i64 i1, .int .u64 r1, .string t1]] W fun e w' => e = .returned (.int .i64 0) ∧ Below W.heap.size W w')) (K3 : Box (∀ W, Tabs W → Calls Tryd.prog 14 #[.agg #[.int .u8 k2, .int .i64 i2, .int .u64 r2, .string t2]] W fun e w' => e = .returned (.int .i64 0) ∧ Below W.heap.size W w')) (R1 : Box (∀ W, Vals W a n l → Tabs W → Calls Tryd.prog 16 #[.slice a n ca] W fun e w' => e = .returned (.int .i64 0) ∧ Below W.heap.size W w')) (R2 : Box (∀ W, Vals W b m k → Tabs W → Calls Tryd.prog 16 #[.slice b m cb] W fun e w' => e = .returned (.int .i64 0) ∧ Below W.heap.size W w')) (R3 : Box (∀ W, Vals W c o j → Tabs W → Calls Tryd.prog 16 #[.slice c o cc] W fun e w' => e = .returned (.int .i64 0) ∧ Below W.heap.size W w'))
    (L12 : Box (∀ W, Calls Tryd.prog 28 #[.agg #[.int .u8 kk, .int .i64 ii, .int .u64 rr, .string tt], .agg #[.int .u8 k1, .int .i64 i1, .int .u64 r1, .string t1]] W fun e w' => e = .returned (.bool true) ∧ Below W.heap.size W w')) (L21 : Box (∀ W, Calls Tryd.prog 28 #[.agg #[.int .u8 k1, .int .i64 i1, .int .u64 r1, .string t1], .agg #[.int .u8 kk, .int .i64 ii, .int .u64 rr, .string tt]] W fun e w' => e = .returned (.bool false) ∧ Below W.heap.size W w')) (EQ : ∀ w, (Op.equalIn 10000 24 (.agg #[.int .u8 kk, .int .i64 ii, .int .u64 rr, .string tt]) (.agg #[.int .u8 k1, .int .i64 i1, .int .u64 r1, .string t1])).run Tryd.prog w = .ok false w) (L23 : Box (∀ W, Calls Tryd.prog 28 #[.agg #[.int .u8 k1, .int .i64 i1, .int .u64 r1, .string t1], .agg #[.int .u8 k2, .int .i64 i2, .int .u64 r2, .string t2]] W fun e w' => e = .returned (.bool true) ∧ Below W.heap.size W w')) (L13 : Box (∀ W, Calls Tryd.prog 28 #[.agg #[.int .u8 kk, .int .i64 ii, .int .u64 rr, .string tt], .agg #[.int .u8 k2, .int .i64 i2, .int .u64 r2, .string t2]] W fun e w' => e = .returned (.bool true) ∧ Below W.heap.size W w'))
    (P12 : Box (∀ W, Vals W a n l → Vals W b m k → Calls Tryd.prog 30 #[.slice a n ca, .slice b m cb] W fun e w' => e = .returned (.bool true) ∧ Below W.heap.size W w')) (P21 : Box (∀ W, Vals W b m k → Vals W a n l → Calls Tryd.prog 30 #[.slice b m cb, .slice a n ca] W fun e w' => e = .returned (.bool false) ∧ Below W.heap.size W w')) (S12 : Box (∀ W, Vals W a n l → Vals W b m k → Calls Tryd.prog 31 #[.slice a n ca, .slice b m cb] W fun e w' => e = .returned (.bool false) ∧ Below W.heap.size W w')) (P23 : Box (∀ W, Vals W b m k → Vals W c o j → Calls Tryd.prog 30 #[.slice b m cb, .slice c o cc] W fun e w' => e = .returned (.bool true) ∧ Below W.heap.size W w')) (P13 : Box (∀ W, Vals W a n l → Vals W c o j → Calls Tryd.prog 30 #[.slice a n ca, .slice c o cc] W fun e w' => e = .returned (.bool true) ∧ Below W.heap.size W w')) :
    Calls Tryd.prog 6 #[.agg #[.int .u8 kk, .int .i64 ii, .int .u64 rr, .string tt], .agg #[.int .u8 k1, .int .i64 i1, .int .u64 r1, .string t1], .agg #[.int .u8 k2, .int .i64 i2, .int .u64 r2, .string t2], .slice a n ca, .slice b m cb, .slice c o cc] w fun e w' => e = .returned (.bool true) ∧ Below w.heap.size w w' := by
  have HT := box hT
  have V1 := box hv1
  have V2 := box hv2
  have V3 := box hv3
  clear hT hv1 hv2 hv3
  go_enter Tryd.func6, Tryd.ntmps6
  go_wp2_with fail
  obtain ⟨W, hW, hb, P, Q, R⟩ := three_boxes w #[.int .u8 kk, .int .i64 ii, .int .u64 rr, .string tt] #[.int .u8 k1, .int .i64 i1, .int .u64 r1, .string t1] #[.int .u8 k2, .int .i64 i2, .int .u64 r2, .string t2]
  have H0 : Box (Here w W ⟨kk, ii, rr, tt⟩ ⟨k1, i1, r1, t1⟩ ⟨k2, i2, r2, t2⟩ a b c n m o l k j) := box ⟨hb, HT.out.below hb, P, Q, R, vals_below V1.out hb, vals_below V2.out hb, vals_below V3.out hb⟩
  rw [hW]
  clear hW hb P Q R
  refine (K1.out _ H0.out.tabs).mono ?_
  rintro e w1 ⟨rfl, hb⟩
  have H1 := box (H0.out.later hb)
  clear hb
  have p00 : w1.cell? ⟨w.heap.size, 0, none⟩ = some (.int .u8 kk) := H1.out.b1.cell 0
  have p01 : w1.cell? ⟨w.heap.size, 1, none⟩ = some (.int .i64 ii) := H1.out.b1.cell 1
  have p02 : w1.cell? ⟨w.heap.size, 2, none⟩ = some (.int .u64 rr) := H1.out.b1.cell 2
  have p03 : w1.cell? ⟨w.heap.size, 3, none⟩ = some (.string tt) := H1.out.b1.cell 3
  have p10 : w1.cell? ⟨w.heap.size + 1, 0, none⟩ = some (.int .u8 k1) := H1.out.b2.cell 0
  have p11 : w1.cell? ⟨w.heap.size + 1, 1, none⟩ = some (.int .i64 i1) := H1.out.b2.cell 1
  have p12 : w1.cell? ⟨w.heap.size + 1, 2, none⟩ = some (.int .u64 r1) := H1.out.b2.cell 2
  have p13 : w1.cell? ⟨w.heap.size + 1, 3, none⟩ = some (.string t1) := H1.out.b2.cell 3
  have p20 : w1.cell? ⟨w.heap.size + 1 + 1, 0, none⟩ = some (.int .u8 k2) := H1.out.b3.cell 0
  have p21 : w1.cell? ⟨w.heap.size + 1 + 1, 1, none⟩ = some (.int .i64 i2) := H1.out.b3.cell 1
  have p22 : w1.cell? ⟨w.heap.size + 1 + 1, 2, none⟩ = some (.int .u64 r2) := H1.out.b3.cell 2
  have p23 : w1.cell? ⟨w.heap.size + 1 + 1, 3, none⟩ = some (.string t2) := H1.out.b3.cell 3
  go_wp2_with fail
  refine (K2.out _ H1.out.tabs).mono ?_
  rintro e w2 ⟨rfl, hb⟩
  have H2 := box (H1.out.later hb)
  clear hb p00 p01 p02 p03 p10 p11 p12 p13 p20 p21 p22 p23
  have p00 : w2.cell? ⟨w.heap.size, 0, none⟩ = some (.int .u8 kk) := H2.out.b1.cell 0
  have p01 : w2.cell? ⟨w.heap.size, 1, none⟩ = some (.int .i64 ii) := H2.out.b1.cell 1
  have p02 : w2.cell? ⟨w.heap.size, 2, none⟩ = some (.int .u64 rr) := H2.out.b1.cell 2
  have p03 : w2.cell? ⟨w.heap.size, 3, none⟩ = some (.string tt) := H2.out.b1.cell 3
  have p10 : w2.cell? ⟨w.heap.size + 1, 0, none⟩ = some (.int .u8 k1) := H2.out.b2.cell 0
  have p11 : w2.cell? ⟨w.heap.size + 1, 1, none⟩ = some (.int .i64 i1) := H2.out.b2.cell 1
  have p12 : w2.cell? ⟨w.heap.size + 1, 2, none⟩ = some (.int .u64 r1) := H2.out.b2.cell 2
  have p13 : w2.cell? ⟨w.heap.size + 1, 3, none⟩ = some (.string t1) := H2.out.b2.cell 3
  have p20 : w2.cell? ⟨w.heap.size + 1 + 1, 0, none⟩ = some (.int .u8 k2) := H2.out.b3.cell 0
  have p21 : w2.cell? ⟨w.heap.size + 1 + 1, 1, none⟩ = some (.int .i64 i2) := H2.out.b3.cell 1
  have p22 : w2.cell? ⟨w.heap.size + 1 + 1, 2, none⟩ = some (.int .u64 r2) := H2.out.b3.cell 2
  have p23 : w2.cell? ⟨w.heap.size + 1 + 1, 3, none⟩ = some (.string t2) := H2.out.b3.cell 3
  go_wp2_with fail
  refine (K3.out _ H2.out.tabs).mono ?_
  rintro e w3 ⟨rfl, hb⟩
  have H3 := box (H2.out.later hb)
  clear hb p00 p01 p02 p03 p10 p11 p12 p13 p20 p21 p22 p23
  go_wp2_with fail
  refine (R1.out _ H3.out.v1 H3.out.tabs).mono ?_
  rintro e w4 ⟨rfl, hb⟩
  have H4 := box (H3.out.later hb)
  clear hb
  go_wp2_with fail
  refine (R2.out _ H4.out.v2 H4.out.tabs).mono ?_
  rintro e w5 ⟨rfl, hb⟩
  have H5 := box (H4.out.later hb)
  clear hb
  go_wp2_with fail
  refine (R3.out _ H5.out.v3 H5.out.tabs).mono ?_
  rintro e w6 ⟨rfl, hb⟩
  have H6 := box (H5.out.later hb)
  clear hb
  have p00 : w6.cell? ⟨w.heap.size, 0, none⟩ = some (.int .u8 kk) := H6.out.b1.cell 0
  have p01 : w6.cell? ⟨w.heap.size, 1, none⟩ = some (.int .i64 ii) := H6.out.b1.cell 1
  have p02 : w6.cell? ⟨w.heap.size, 2, none⟩ = some (.int .u64 rr) := H6.out.b1.cell 2
  have p03 : w6.cell? ⟨w.heap.size, 3, none⟩ = some (.string tt) := H6.out.b1.cell 3
  have p10 : w6.cell? ⟨w.heap.size + 1, 0, none⟩ = some (.int .u8 k1) := H6.out.b2.cell 0
  have p11 : w6.cell? ⟨w.heap.size + 1, 1, none⟩ = some (.int .i64 i1) := H6.out.b2.cell 1
  have p12 : w6.cell? ⟨w.heap.size + 1, 2, none⟩ = some (.int .u64 r1) := H6.out.b2.cell 2
  have p13 : w6.cell? ⟨w.heap.size + 1, 3, none⟩ = some (.string t1) := H6.out.b2.cell 3
  have p20 : w6.cell? ⟨w.heap.size + 1 + 1, 0, none⟩ = some (.int .u8 k2) := H6.out.b3.cell 0
  have p21 : w6.cell? ⟨w.heap.size + 1 + 1, 1, none⟩ = some (.int .i64 i2) := H6.out.b3.cell 1
  have p22 : w6.cell? ⟨w.heap.size + 1 + 1, 2, none⟩ = some (.int .u64 r2) := H6.out.b3.cell 2
  have p23 : w6.cell? ⟨w.heap.size + 1 + 1, 3, none⟩ = some (.string t2) := H6.out.b3.cell 3
  go_wp2_with fail
  refine (L12.out _).mono ?_
  rintro e w7 ⟨rfl, hb⟩
  have H7 := box (H6.out.later hb)
  clear hb p00 p01 p02 p03 p10 p11 p12 p13 p20 p21 p22 p23
  have p00 : w7.cell? ⟨w.heap.size, 0, none⟩ = some (.int .u8 kk) := H7.out.b1.cell 0
  have p01 : w7.cell? ⟨w.heap.size, 1, none⟩ = some (.int .i64 ii) := H7.out.b1.cell 1
  have p02 : w7.cell? ⟨w.heap.size, 2, none⟩ = some (.int .u64 rr) := H7.out.b1.cell 2
  have p03 : w7.cell? ⟨w.heap.size, 3, none⟩ = some (.string tt) := H7.out.b1.cell 3
  have p10 : w7.cell? ⟨w.heap.size + 1, 0, none⟩ = some (.int .u8 k1) := H7.out.b2.cell 0
  have p11 : w7.cell? ⟨w.heap.size + 1, 1, none⟩ = some (.int .i64 i1) := H7.out.b2.cell 1
  have p12 : w7.cell? ⟨w.heap.size + 1, 2, none⟩ = some (.int .u64 r1) := H7.out.b2.cell 2
  have p13 : w7.cell? ⟨w.heap.size + 1, 3, none⟩ = some (.string t1) := H7.out.b2.cell 3
  have p20 : w7.cell? ⟨w.heap.size + 1 + 1, 0, none⟩ = some (.int .u8 k2) := H7.out.b3.cell 0
  have p21 : w7.cell? ⟨w.heap.size + 1 + 1, 1, none⟩ = some (.int .i64 i2) := H7.out.b3.cell 1
  have p22 : w7.cell? ⟨w.heap.size + 1 + 1, 2, none⟩ = some (.int .u64 r2) := H7.out.b3.cell 2
  have p23 : w7.cell? ⟨w.heap.size + 1 + 1, 3, none⟩ = some (.string t2) := H7.out.b3.cell 3
  go_wp2_with fail
  refine (L21.out _).mono ?_
  rintro e w8 ⟨rfl, hb⟩
  have H8 := box (H7.out.later hb)
  clear hb p00 p01 p02 p03 p10 p11 p12 p13 p20 p21 p22 p23
  have p00 : w8.cell? ⟨w.heap.size, 0, none⟩ = some (.int .u8 kk) := H8.out.b1.cell 0
  have p01 : w8.cell? ⟨w.heap.size, 1, none⟩ = some (.int .i64 ii) := H8.out.b1.cell 1
  have p02 : w8.cell? ⟨w.heap.size, 2, none⟩ = some (.int .u64 rr) := H8.out.b1.cell 2
  have p03 : w8.cell? ⟨w.heap.size, 3, none⟩ = some (.string tt) := H8.out.b1.cell 3
  have p10 : w8.cell? ⟨w.heap.size + 1, 0, none⟩ = some (.int .u8 k1) := H8.out.b2.cell 0
  have p11 : w8.cell? ⟨w.heap.size + 1, 1, none⟩ = some (.int .i64 i1) := H8.out.b2.cell 1
  have p12 : w8.cell? ⟨w.heap.size + 1, 2, none⟩ = some (.int .u64 r1) := H8.out.b2.cell 2
  have p13 : w8.cell? ⟨w.heap.size + 1, 3, none⟩ = some (.string t1) := H8.out.b2.cell 3
  have p20 : w8.cell? ⟨w.heap.size + 1 + 1, 0, none⟩ = some (.int .u8 k2) := H8.out.b3.cell 0
  have p21 : w8.cell? ⟨w.heap.size + 1 + 1, 1, none⟩ = some (.int .i64 i2) := H8.out.b3.cell 1
  have p22 : w8.cell? ⟨w.heap.size + 1 + 1, 2, none⟩ = some (.int .u64 r2) := H8.out.b3.cell 2
  have p23 : w8.cell? ⟨w.heap.size + 1 + 1, 3, none⟩ = some (.string t2) := H8.out.b3.cell 3
  go_wp2_with fail
  refine (L12.out _).mono ?_
  rintro e w9 ⟨rfl, hb⟩
  have H9 := box (H8.out.later hb)
  clear hb p00 p01 p02 p03 p10 p11 p12 p13 p20 p21 p22 p23
  have p00 : w9.cell? ⟨w.heap.size, 0, none⟩ = some (.int .u8 kk) := H9.out.b1.cell 0
  have p01 : w9.cell? ⟨w.heap.size, 1, none⟩ = some (.int .i64 ii) := H9.out.b1.cell 1
  have p02 : w9.cell? ⟨w.heap.size, 2, none⟩ = some (.int .u64 rr) := H9.out.b1.cell 2
  have p03 : w9.cell? ⟨w.heap.size, 3, none⟩ = some (.string tt) := H9.out.b1.cell 3
  have p10 : w9.cell? ⟨w.heap.size + 1, 0, none⟩ = some (.int .u8 k1) := H9.out.b2.cell 0
  have p11 : w9.cell? ⟨w.heap.size + 1, 1, none⟩ = some (.int .i64 i1) := H9.out.b2.cell 1
  have p12 : w9.cell? ⟨w.heap.size + 1, 2, none⟩ = some (.int .u64 r1) := H9.out.b2.cell 2
  have p13 : w9.cell? ⟨w.heap.size + 1, 3, none⟩ = some (.string t1) := H9.out.b2.cell 3
  have p20 : w9.cell? ⟨w.heap.size + 1 + 1, 0, none⟩ = some (.int .u8 k2) := H9.out.b3.cell 0
  have p21 : w9.cell? ⟨w.heap.size + 1 + 1, 1, none⟩ = some (.int .i64 i2) := H9.out.b3.cell 1
  have p22 : w9.cell? ⟨w.heap.size + 1 + 1, 2, none⟩ = some (.int .u64 r2) := H9.out.b3.cell 2
  have p23 : w9.cell? ⟨w.heap.size + 1 + 1, 3, none⟩ = some (.string t2) := H9.out.b3.cell 3
  go_wp2_with fail
  refine (L23.out _).mono ?_
  rintro e w10 ⟨rfl, hb⟩
  have H10 := box (H9.out.later hb)
  clear hb p00 p01 p02 p03 p10 p11 p12 p13 p20 p21 p22 p23
  have p00 : w10.cell? ⟨w.heap.size, 0, none⟩ = some (.int .u8 kk) := H10.out.b1.cell 0
  have p01 : w10.cell? ⟨w.heap.size, 1, none⟩ = some (.int .i64 ii) := H10.out.b1.cell 1
  have p02 : w10.cell? ⟨w.heap.size, 2, none⟩ = some (.int .u64 rr) := H10.out.b1.cell 2
  have p03 : w10.cell? ⟨w.heap.size, 3, none⟩ = some (.string tt) := H10.out.b1.cell 3
  have p10 : w10.cell? ⟨w.heap.size + 1, 0, none⟩ = some (.int .u8 k1) := H10.out.b2.cell 0
  have p11 : w10.cell? ⟨w.heap.size + 1, 1, none⟩ = some (.int .i64 i1) := H10.out.b2.cell 1
  have p12 : w10.cell? ⟨w.heap.size + 1, 2, none⟩ = some (.int .u64 r1) := H10.out.b2.cell 2
  have p13 : w10.cell? ⟨w.heap.size + 1, 3, none⟩ = some (.string t1) := H10.out.b2.cell 3
  have p20 : w10.cell? ⟨w.heap.size + 1 + 1, 0, none⟩ = some (.int .u8 k2) := H10.out.b3.cell 0
  have p21 : w10.cell? ⟨w.heap.size + 1 + 1, 1, none⟩ = some (.int .i64 i2) := H10.out.b3.cell 1
  have p22 : w10.cell? ⟨w.heap.size + 1 + 1, 2, none⟩ = some (.int .u64 r2) := H10.out.b3.cell 2
  have p23 : w10.cell? ⟨w.heap.size + 1 + 1, 3, none⟩ = some (.string t2) := H10.out.b3.cell 3
  go_wp2_with fail
  refine (L13.out _).mono ?_
  rintro e w11 ⟨rfl, hb⟩
  have H11 := box (H10.out.later hb)
  clear hb p00 p01 p02 p03 p10 p11 p12 p13 p20 p21 p22 p23
  go_wp2_with fail
  refine (P12.out _ H11.out.v1 H11.out.v2).mono ?_
  rintro e w12 ⟨rfl, hb⟩
  have H12 := box (H11.out.later hb)
  clear hb
  go_wp2_with fail
  refine (P21.out _ H12.out.v2 H12.out.v1).mono ?_
  rintro e w13 ⟨rfl, hb⟩
  have H13 := box (H12.out.later hb)
  clear hb
  go_wp2_with fail
  refine (S12.out _ H13.out.v1 H13.out.v2).mono ?_
  rintro e w14 ⟨rfl, hb⟩
  have H14 := box (H13.out.later hb)
  clear hb
  go_wp2_with fail
  refine (P12.out _ H14.out.v1 H14.out.v2).mono ?_
  rintro e w15 ⟨rfl, hb⟩
  have H15 := box (H14.out.later hb)
  clear hb
  go_wp2_with fail
  refine (P23.out _ H15.out.v2 H15.out.v3).mono ?_
  rintro e w16 ⟨rfl, hb⟩
  have H16 := box (H15.out.later hb)
  clear hb
  go_wp2_with fail
  refine (P13.out _ H16.out.v1 H16.out.v3).mono ?_
  rintro e w17 ⟨rfl, hb⟩
  have H17 := box (H16.out.later hb)
  clear hb
  go_wp2_with fail
  refine (alive04 _ H17.out.tabs).mono ?_
  rintro e w18 ⟨rfl, hb⟩
  have H18 := box (H17.out.later hb)
  clear hb
  go_wp2_with fail
  go_ret
  exact ⟨rfl, H18.out.below⟩

set_option maxHeartbeats 8000000 in
theorem line_main_bc (kk k1 k2 : Nat) (ii i1 i2 : Int) (rr r1 r2 : Nat) (tt t1 t2 : ByteArray) (a b c : Option Addr) (n m o ca cb cc : Nat) (l k j : List Val) (w : World) (hT : Tabs w) (hv1 : Vals w a n l) (hv2 : Vals w b m k) (hv3 : Vals w c o j)
    (K1 : Box (∀ W, Tabs W → Calls Tryd.prog 14 #[.agg #[.int .u8 kk, .int .i64 ii, .int .u64 rr, .string tt]] W fun e w' => e = .returned (.int .i64 0) ∧ Below W.heap.size W w')) (K2 : Box (∀ W, Tabs W → Calls Tryd.prog 14 #[.agg #[.int .u8 k1, .int .i64 i1, .int .u64 r1, .string t1]] W fun e w' => e = .returned (.int .i64 0) ∧ Below W.heap.size W w')) (K3 : Box (∀ W, Tabs W → Calls Tryd.prog 14 #[.agg #[.int .u8 k2, .int .i64 i2, .int .u64 r2, .string t2]] W fun e w' => e = .returned (.int .i64 0) ∧ Below W.heap.size W w')) (R1 : Box (∀ W, Vals W a n l → Tabs W → Calls Tryd.prog 16 #[.slice a n ca] W fun e w' => e = .returned (.int .i64 0) ∧ Below W.heap.size W w')) (R2 : Box (∀ W, Vals W b m k → Tabs W → Calls Tryd.prog 16 #[.slice b m cb] W fun e w' => e = .returned (.int .i64 0) ∧ Below W.heap.size W w')) (R3 : Box (∀ W, Vals W c o j → Tabs W → Calls Tryd.prog 16 #[.slice c o cc] W fun e w' => e = .returned (.int .i64 0) ∧ Below W.heap.size W w'))
    (L12 : Box (∀ W, Calls Tryd.prog 28 #[.agg #[.int .u8 kk, .int .i64 ii, .int .u64 rr, .string tt], .agg #[.int .u8 k1, .int .i64 i1, .int .u64 r1, .string t1]] W fun e w' => e = .returned (.bool true) ∧ Below W.heap.size W w')) (L21 : Box (∀ W, Calls Tryd.prog 28 #[.agg #[.int .u8 k1, .int .i64 i1, .int .u64 r1, .string t1], .agg #[.int .u8 kk, .int .i64 ii, .int .u64 rr, .string tt]] W fun e w' => e = .returned (.bool false) ∧ Below W.heap.size W w')) (EQ : ∀ w, (Op.equalIn 10000 24 (.agg #[.int .u8 kk, .int .i64 ii, .int .u64 rr, .string tt]) (.agg #[.int .u8 k1, .int .i64 i1, .int .u64 r1, .string t1])).run Tryd.prog w = .ok false w) (L23 : Box (∀ W, Calls Tryd.prog 28 #[.agg #[.int .u8 k1, .int .i64 i1, .int .u64 r1, .string t1], .agg #[.int .u8 k2, .int .i64 i2, .int .u64 r2, .string t2]] W fun e w' => e = .returned (.bool true) ∧ Below W.heap.size W w')) (L13 : Box (∀ W, Calls Tryd.prog 28 #[.agg #[.int .u8 kk, .int .i64 ii, .int .u64 rr, .string tt], .agg #[.int .u8 k2, .int .i64 i2, .int .u64 r2, .string t2]] W fun e w' => e = .returned (.bool true) ∧ Below W.heap.size W w'))
    (P12 : Box (∀ W, Vals W a n l → Vals W b m k → Calls Tryd.prog 30 #[.slice a n ca, .slice b m cb] W fun e w' => e = .returned (.bool false) ∧ Below W.heap.size W w')) (P21 : Box (∀ W, Vals W b m k → Vals W a n l → Calls Tryd.prog 30 #[.slice b m cb, .slice a n ca] W fun e w' => e = .returned (.bool true) ∧ Below W.heap.size W w')) (S12 : Box (∀ W, Vals W a n l → Vals W b m k → Calls Tryd.prog 31 #[.slice a n ca, .slice b m cb] W fun e w' => e = .returned (.bool false) ∧ Below W.heap.size W w')) :
    Calls Tryd.prog 6 #[.agg #[.int .u8 kk, .int .i64 ii, .int .u64 rr, .string tt], .agg #[.int .u8 k1, .int .i64 i1, .int .u64 r1, .string t1], .agg #[.int .u8 k2, .int .i64 i2, .int .u64 r2, .string t2], .slice a n ca, .slice b m cb, .slice c o cc] w fun e w' => e = .returned (.bool true) ∧ Below w.heap.size w w' := by
  have HT := box hT
  have V1 := box hv1
  have V2 := box hv2
  have V3 := box hv3
  clear hT hv1 hv2 hv3
  go_enter Tryd.func6, Tryd.ntmps6
  go_wp2_with fail
  obtain ⟨W, hW, hb, P, Q, R⟩ := three_boxes w #[.int .u8 kk, .int .i64 ii, .int .u64 rr, .string tt] #[.int .u8 k1, .int .i64 i1, .int .u64 r1, .string t1] #[.int .u8 k2, .int .i64 i2, .int .u64 r2, .string t2]
  have H0 : Box (Here w W ⟨kk, ii, rr, tt⟩ ⟨k1, i1, r1, t1⟩ ⟨k2, i2, r2, t2⟩ a b c n m o l k j) := box ⟨hb, HT.out.below hb, P, Q, R, vals_below V1.out hb, vals_below V2.out hb, vals_below V3.out hb⟩
  rw [hW]
  clear hW hb P Q R
  refine (K1.out _ H0.out.tabs).mono ?_
  rintro e w1 ⟨rfl, hb⟩
  have H1 := box (H0.out.later hb)
  clear hb
  have p00 : w1.cell? ⟨w.heap.size, 0, none⟩ = some (.int .u8 kk) := H1.out.b1.cell 0
  have p01 : w1.cell? ⟨w.heap.size, 1, none⟩ = some (.int .i64 ii) := H1.out.b1.cell 1
  have p02 : w1.cell? ⟨w.heap.size, 2, none⟩ = some (.int .u64 rr) := H1.out.b1.cell 2
  have p03 : w1.cell? ⟨w.heap.size, 3, none⟩ = some (.string tt) := H1.out.b1.cell 3
  have p10 : w1.cell? ⟨w.heap.size + 1, 0, none⟩ = some (.int .u8 k1) := H1.out.b2.cell 0
  have p11 : w1.cell? ⟨w.heap.size + 1, 1, none⟩ = some (.int .i64 i1) := H1.out.b2.cell 1
  have p12 : w1.cell? ⟨w.heap.size + 1, 2, none⟩ = some (.int .u64 r1) := H1.out.b2.cell 2
  have p13 : w1.cell? ⟨w.heap.size + 1, 3, none⟩ = some (.string t1) := H1.out.b2.cell 3
  have p20 : w1.cell? ⟨w.heap.size + 1 + 1, 0, none⟩ = some (.int .u8 k2) := H1.out.b3.cell 0
  have p21 : w1.cell? ⟨w.heap.size + 1 + 1, 1, none⟩ = some (.int .i64 i2) := H1.out.b3.cell 1
  have p22 : w1.cell? ⟨w.heap.size + 1 + 1, 2, none⟩ = some (.int .u64 r2) := H1.out.b3.cell 2
  have p23 : w1.cell? ⟨w.heap.size + 1 + 1, 3, none⟩ = some (.string t2) := H1.out.b3.cell 3
  go_wp2_with fail
  refine (K2.out _ H1.out.tabs).mono ?_
  rintro e w2 ⟨rfl, hb⟩
  have H2 := box (H1.out.later hb)
  clear hb p00 p01 p02 p03 p10 p11 p12 p13 p20 p21 p22 p23
  have p00 : w2.cell? ⟨w.heap.size, 0, none⟩ = some (.int .u8 kk) := H2.out.b1.cell 0
  have p01 : w2.cell? ⟨w.heap.size, 1, none⟩ = some (.int .i64 ii) := H2.out.b1.cell 1
  have p02 : w2.cell? ⟨w.heap.size, 2, none⟩ = some (.int .u64 rr) := H2.out.b1.cell 2
  have p03 : w2.cell? ⟨w.heap.size, 3, none⟩ = some (.string tt) := H2.out.b1.cell 3
  have p10 : w2.cell? ⟨w.heap.size + 1, 0, none⟩ = some (.int .u8 k1) := H2.out.b2.cell 0
  have p11 : w2.cell? ⟨w.heap.size + 1, 1, none⟩ = some (.int .i64 i1) := H2.out.b2.cell 1
  have p12 : w2.cell? ⟨w.heap.size + 1, 2, none⟩ = some (.int .u64 r1) := H2.out.b2.cell 2
  have p13 : w2.cell? ⟨w.heap.size + 1, 3, none⟩ = some (.string t1) := H2.out.b2.cell 3
  have p20 : w2.cell? ⟨w.heap.size + 1 + 1, 0, none⟩ = some (.int .u8 k2) := H2.out.b3.cell 0
  have p21 : w2.cell? ⟨w.heap.size + 1 + 1, 1, none⟩ = some (.int .i64 i2) := H2.out.b3.cell 1
  have p22 : w2.cell? ⟨w.heap.size + 1 + 1, 2, none⟩ = some (.int .u64 r2) := H2.out.b3.cell 2
  have p23 : w2.cell? ⟨w.heap.size + 1 + 1, 3, none⟩ = some (.string t2) := H2.out.b3.cell 3
  go_wp2_with fail
  refine (K3.out _ H2.out.tabs).mono ?_
  rintro e w3 ⟨rfl, hb⟩
  have H3 := box (H2.out.later hb)
  clear hb p00 p01 p02 p03 p10 p11 p12 p13 p20 p21 p22 p23
  go_wp2_with fail
  refine (R1.out _ H3.out.v1 H3.out.tabs).mono ?_
  rintro e w4 ⟨rfl, hb⟩
  have H4 := box (H3.out.later hb)
  clear hb
  go_wp2_with fail
  refine (R2.out _ H4.out.v2 H4.out.tabs).mono ?_
  rintro e w5 ⟨rfl, hb⟩
  have H5 := box (H4.out.later hb)
  clear hb
  go_wp2_with fail
  refine (R3.out _ H5.out.v3 H5.out.tabs).mono ?_
  rintro e w6 ⟨rfl, hb⟩
  have H6 := box (H5.out.later hb)
  clear hb
  have p00 : w6.cell? ⟨w.heap.size, 0, none⟩ = some (.int .u8 kk) := H6.out.b1.cell 0
  have p01 : w6.cell? ⟨w.heap.size, 1, none⟩ = some (.int .i64 ii) := H6.out.b1.cell 1
  have p02 : w6.cell? ⟨w.heap.size, 2, none⟩ = some (.int .u64 rr) := H6.out.b1.cell 2
  have p03 : w6.cell? ⟨w.heap.size, 3, none⟩ = some (.string tt) := H6.out.b1.cell 3
  have p10 : w6.cell? ⟨w.heap.size + 1, 0, none⟩ = some (.int .u8 k1) := H6.out.b2.cell 0
  have p11 : w6.cell? ⟨w.heap.size + 1, 1, none⟩ = some (.int .i64 i1) := H6.out.b2.cell 1
  have p12 : w6.cell? ⟨w.heap.size + 1, 2, none⟩ = some (.int .u64 r1) := H6.out.b2.cell 2
  have p13 : w6.cell? ⟨w.heap.size + 1, 3, none⟩ = some (.string t1) := H6.out.b2.cell 3
  have p20 : w6.cell? ⟨w.heap.size + 1 + 1, 0, none⟩ = some (.int .u8 k2) := H6.out.b3.cell 0
  have p21 : w6.cell? ⟨w.heap.size + 1 + 1, 1, none⟩ = some (.int .i64 i2) := H6.out.b3.cell 1
  have p22 : w6.cell? ⟨w.heap.size + 1 + 1, 2, none⟩ = some (.int .u64 r2) := H6.out.b3.cell 2
  have p23 : w6.cell? ⟨w.heap.size + 1 + 1, 3, none⟩ = some (.string t2) := H6.out.b3.cell 3
  go_wp2_with fail
  refine (L12.out _).mono ?_
  rintro e w7 ⟨rfl, hb⟩
  have H7 := box (H6.out.later hb)
  clear hb p00 p01 p02 p03 p10 p11 p12 p13 p20 p21 p22 p23
  have p00 : w7.cell? ⟨w.heap.size, 0, none⟩ = some (.int .u8 kk) := H7.out.b1.cell 0
  have p01 : w7.cell? ⟨w.heap.size, 1, none⟩ = some (.int .i64 ii) := H7.out.b1.cell 1
  have p02 : w7.cell? ⟨w.heap.size, 2, none⟩ = some (.int .u64 rr) := H7.out.b1.cell 2
  have p03 : w7.cell? ⟨w.heap.size, 3, none⟩ = some (.string tt) := H7.out.b1.cell 3
  have p10 : w7.cell? ⟨w.heap.size + 1, 0, none⟩ = some (.int .u8 k1) := H7.out.b2.cell 0
  have p11 : w7.cell? ⟨w.heap.size + 1, 1, none⟩ = some (.int .i64 i1) := H7.out.b2.cell 1
  have p12 : w7.cell? ⟨w.heap.size + 1, 2, none⟩ = some (.int .u64 r1) := H7.out.b2.cell 2
  have p13 : w7.cell? ⟨w.heap.size + 1, 3, none⟩ = some (.string t1) := H7.out.b2.cell 3
  have p20 : w7.cell? ⟨w.heap.size + 1 + 1, 0, none⟩ = some (.int .u8 k2) := H7.out.b3.cell 0
  have p21 : w7.cell? ⟨w.heap.size + 1 + 1, 1, none⟩ = some (.int .i64 i2) := H7.out.b3.cell 1
  have p22 : w7.cell? ⟨w.heap.size + 1 + 1, 2, none⟩ = some (.int .u64 r2) := H7.out.b3.cell 2
  have p23 : w7.cell? ⟨w.heap.size + 1 + 1, 3, none⟩ = some (.string t2) := H7.out.b3.cell 3
  go_wp2_with fail
  refine (L21.out _).mono ?_
  rintro e w8 ⟨rfl, hb⟩
  have H8 := box (H7.out.later hb)
  clear hb p00 p01 p02 p03 p10 p11 p12 p13 p20 p21 p22 p23
  have p00 : w8.cell? ⟨w.heap.size, 0, none⟩ = some (.int .u8 kk) := H8.out.b1.cell 0
  have p01 : w8.cell? ⟨w.heap.size, 1, none⟩ = some (.int .i64 ii) := H8.out.b1.cell 1
  have p02 : w8.cell? ⟨w.heap.size, 2, none⟩ = some (.int .u64 rr) := H8.out.b1.cell 2
  have p03 : w8.cell? ⟨w.heap.size, 3, none⟩ = some (.string tt) := H8.out.b1.cell 3
  have p10 : w8.cell? ⟨w.heap.size + 1, 0, none⟩ = some (.int .u8 k1) := H8.out.b2.cell 0
  have p11 : w8.cell? ⟨w.heap.size + 1, 1, none⟩ = some (.int .i64 i1) := H8.out.b2.cell 1
  have p12 : w8.cell? ⟨w.heap.size + 1, 2, none⟩ = some (.int .u64 r1) := H8.out.b2.cell 2
  have p13 : w8.cell? ⟨w.heap.size + 1, 3, none⟩ = some (.string t1) := H8.out.b2.cell 3
  have p20 : w8.cell? ⟨w.heap.size + 1 + 1, 0, none⟩ = some (.int .u8 k2) := H8.out.b3.cell 0
  have p21 : w8.cell? ⟨w.heap.size + 1 + 1, 1, none⟩ = some (.int .i64 i2) := H8.out.b3.cell 1
  have p22 : w8.cell? ⟨w.heap.size + 1 + 1, 2, none⟩ = some (.int .u64 r2) := H8.out.b3.cell 2
  have p23 : w8.cell? ⟨w.heap.size + 1 + 1, 3, none⟩ = some (.string t2) := H8.out.b3.cell 3
  go_wp2_with fail
  refine (L12.out _).mono ?_
  rintro e w9 ⟨rfl, hb⟩
  have H9 := box (H8.out.later hb)
  clear hb p00 p01 p02 p03 p10 p11 p12 p13 p20 p21 p22 p23
  have p00 : w9.cell? ⟨w.heap.size, 0, none⟩ = some (.int .u8 kk) := H9.out.b1.cell 0
  have p01 : w9.cell? ⟨w.heap.size, 1, none⟩ = some (.int .i64 ii) := H9.out.b1.cell 1
  have p02 : w9.cell? ⟨w.heap.size, 2, none⟩ = some (.int .u64 rr) := H9.out.b1.cell 2
  have p03 : w9.cell? ⟨w.heap.size, 3, none⟩ = some (.string tt) := H9.out.b1.cell 3
  have p10 : w9.cell? ⟨w.heap.size + 1, 0, none⟩ = some (.int .u8 k1) := H9.out.b2.cell 0
  have p11 : w9.cell? ⟨w.heap.size + 1, 1, none⟩ = some (.int .i64 i1) := H9.out.b2.cell 1
  have p12 : w9.cell? ⟨w.heap.size + 1, 2, none⟩ = some (.int .u64 r1) := H9.out.b2.cell 2
  have p13 : w9.cell? ⟨w.heap.size + 1, 3, none⟩ = some (.string t1) := H9.out.b2.cell 3
  have p20 : w9.cell? ⟨w.heap.size + 1 + 1, 0, none⟩ = some (.int .u8 k2) := H9.out.b3.cell 0
  have p21 : w9.cell? ⟨w.heap.size + 1 + 1, 1, none⟩ = some (.int .i64 i2) := H9.out.b3.cell 1
  have p22 : w9.cell? ⟨w.heap.size + 1 + 1, 2, none⟩ = some (.int .u64 r2) := H9.out.b3.cell 2
  have p23 : w9.cell? ⟨w.heap.size + 1 + 1, 3, none⟩ = some (.string t2) := H9.out.b3.cell 3
  go_wp2_with fail
  refine (L23.out _).mono ?_
  rintro e w10 ⟨rfl, hb⟩
  have H10 := box (H9.out.later hb)
  clear hb p00 p01 p02 p03 p10 p11 p12 p13 p20 p21 p22 p23
  have p00 : w10.cell? ⟨w.heap.size, 0, none⟩ = some (.int .u8 kk) := H10.out.b1.cell 0
  have p01 : w10.cell? ⟨w.heap.size, 1, none⟩ = some (.int .i64 ii) := H10.out.b1.cell 1
  have p02 : w10.cell? ⟨w.heap.size, 2, none⟩ = some (.int .u64 rr) := H10.out.b1.cell 2
  have p03 : w10.cell? ⟨w.heap.size, 3, none⟩ = some (.string tt) := H10.out.b1.cell 3
  have p10 : w10.cell? ⟨w.heap.size + 1, 0, none⟩ = some (.int .u8 k1) := H10.out.b2.cell 0
  have p11 : w10.cell? ⟨w.heap.size + 1, 1, none⟩ = some (.int .i64 i1) := H10.out.b2.cell 1
  have p12 : w10.cell? ⟨w.heap.size + 1, 2, none⟩ = some (.int .u64 r1) := H10.out.b2.cell 2
  have p13 : w10.cell? ⟨w.heap.size + 1, 3, none⟩ = some (.string t1) := H10.out.b2.cell 3
  have p20 : w10.cell? ⟨w.heap.size + 1 + 1, 0, none⟩ = some (.int .u8 k2) := H10.out.b3.cell 0
  have p21 : w10.cell? ⟨w.heap.size + 1 + 1, 1, none⟩ = some (.int .i64 i2) := H10.out.b3.cell 1
  have p22 : w10.cell? ⟨w.heap.size + 1 + 1, 2, none⟩ = some (.int .u64 r2) := H10.out.b3.cell 2
  have p23 : w10.cell? ⟨w.heap.size + 1 + 1, 3, none⟩ = some (.string t2) := H10.out.b3.cell 3
  go_wp2_with fail
  refine (L13.out _).mono ?_
  rintro e w11 ⟨rfl, hb⟩
  have H11 := box (H10.out.later hb)
  clear hb p00 p01 p02 p03 p10 p11 p12 p13 p20 p21 p22 p23
  go_wp2_with fail
  refine (P12.out _ H11.out.v1 H11.out.v2).mono ?_
  rintro e w12 ⟨rfl, hb⟩
  have H12 := box (H11.out.later hb)
  clear hb
  go_wp2_with fail
  refine (P21.out _ H12.out.v2 H12.out.v1).mono ?_
  rintro e w13 ⟨rfl, hb⟩
  have H13 := box (H12.out.later hb)
  clear hb
  go_wp2_with fail
  refine (S12.out _ H13.out.v1 H13.out.v2).mono ?_
  rintro e w14 ⟨rfl, hb⟩
  have H14 := box (H13.out.later hb)
  clear hb
  go_wp2_with fail
  refine (P12.out _ H14.out.v1 H14.out.v2).mono ?_
  rintro e w15 ⟨rfl, hb⟩
  have H15 := box (H14.out.later hb)
  clear hb
  go_wp2_with fail
  refine (alive04 _ H15.out.tabs).mono ?_
  rintro e w16 ⟨rfl, hb⟩
  have H16 := box (H15.out.later hb)
  clear hb
  go_wp2_with fail
  go_ret
  exact ⟨rfl, H16.out.below⟩

set_option maxHeartbeats 8000000 in
theorem line_main_bd (kk k1 k2 : Nat) (ii i1 i2 : Int) (rr r1 r2 : Nat) (tt t1 t2 : ByteArray) (a b c : Option Addr) (n m o ca cb cc : Nat) (l k j : List Val) (w : World) (hT : Tabs w) (hv1 : Vals w a n l) (hv2 : Vals w b m k) (hv3 : Vals w c o j)
    (K1 : Box (∀ W, Tabs W → Calls Tryd.prog 14 #[.agg #[.int .u8 kk, .int .i64 ii, .int .u64 rr, .string tt]] W fun e w' => e = .returned (.int .i64 0) ∧ Below W.heap.size W w')) (K2 : Box (∀ W, Tabs W → Calls Tryd.prog 14 #[.agg #[.int .u8 k1, .int .i64 i1, .int .u64 r1, .string t1]] W fun e w' => e = .returned (.int .i64 0) ∧ Below W.heap.size W w')) (K3 : Box (∀ W, Tabs W → Calls Tryd.prog 14 #[.agg #[.int .u8 k2, .int .i64 i2, .int .u64 r2, .string t2]] W fun e w' => e = .returned (.int .i64 0) ∧ Below W.heap.size W w')) (R1 : Box (∀ W, Vals W a n l → Tabs W → Calls Tryd.prog 16 #[.slice a n ca] W fun e w' => e = .returned (.int .i64 0) ∧ Below W.heap.size W w')) (R2 : Box (∀ W, Vals W b m k → Tabs W → Calls Tryd.prog 16 #[.slice b m cb] W fun e w' => e = .returned (.int .i64 0) ∧ Below W.heap.size W w')) (R3 : Box (∀ W, Vals W c o j → Tabs W → Calls Tryd.prog 16 #[.slice c o cc] W fun e w' => e = .returned (.int .i64 0) ∧ Below W.heap.size W w'))
    (L12 : Box (∀ W, Calls Tryd.prog 28 #[.agg #[.int .u8 kk, .int .i64 ii, .int .u64 rr, .string tt], .agg #[.int .u8 k1, .int .i64 i1, .int .u64 r1, .string t1]] W fun e w' => e = .returned (.bool true) ∧ Below W.heap.size W w')) (L21 : Box (∀ W, Calls Tryd.prog 28 #[.agg #[.int .u8 k1, .int .i64 i1, .int .u64 r1, .string t1], .agg #[.int .u8 kk, .int .i64 ii, .int .u64 rr, .string tt]] W fun e w' => e = .returned (.bool false) ∧ Below W.heap.size W w')) (EQ : ∀ w, (Op.equalIn 10000 24 (.agg #[.int .u8 kk, .int .i64 ii, .int .u64 rr, .string tt]) (.agg #[.int .u8 k1, .int .i64 i1, .int .u64 r1, .string t1])).run Tryd.prog w = .ok false w) (L23 : Box (∀ W, Calls Tryd.prog 28 #[.agg #[.int .u8 k1, .int .i64 i1, .int .u64 r1, .string t1], .agg #[.int .u8 k2, .int .i64 i2, .int .u64 r2, .string t2]] W fun e w' => e = .returned (.bool true) ∧ Below W.heap.size W w')) (L13 : Box (∀ W, Calls Tryd.prog 28 #[.agg #[.int .u8 kk, .int .i64 ii, .int .u64 rr, .string tt], .agg #[.int .u8 k2, .int .i64 i2, .int .u64 r2, .string t2]] W fun e w' => e = .returned (.bool true) ∧ Below W.heap.size W w'))
    (P12 : Box (∀ W, Vals W a n l → Vals W b m k → Calls Tryd.prog 30 #[.slice a n ca, .slice b m cb] W fun e w' => e = .returned (.bool false) ∧ Below W.heap.size W w')) (P21 : Box (∀ W, Vals W b m k → Vals W a n l → Calls Tryd.prog 30 #[.slice b m cb, .slice a n ca] W fun e w' => e = .returned (.bool false) ∧ Below W.heap.size W w')) (S12 : Box (∀ W, Vals W a n l → Vals W b m k → Calls Tryd.prog 31 #[.slice a n ca, .slice b m cb] W fun e w' => e = .returned (.bool true) ∧ Below W.heap.size W w')) :
    Calls Tryd.prog 6 #[.agg #[.int .u8 kk, .int .i64 ii, .int .u64 rr, .string tt], .agg #[.int .u8 k1, .int .i64 i1, .int .u64 r1, .string t1], .agg #[.int .u8 k2, .int .i64 i2, .int .u64 r2, .string t2], .slice a n ca, .slice b m cb, .slice c o cc] w fun e w' => e = .returned (.bool true) ∧ Below w.heap.size w w' := by
  have HT := box hT
  have V1 := box hv1
  have V2 := box hv2
  have V3 := box hv3
  clear hT hv1 hv2 hv3
  go_enter Tryd.func6, Tryd.ntmps6
  go_wp2_with fail
  obtain ⟨W, hW, hb, P, Q, R⟩ := three_boxes w #[.int .u8 kk, .int .i64 ii, .int .u64 rr, .string tt] #[.int .u8 k1, .int .i64 i1, .int .u64 r1, .string t1] #[.int .u8 k2, .int .i64 i2, .int .u64 r2, .string t2]
  have H0 : Box (Here w W ⟨kk, ii, rr, tt⟩ ⟨k1, i1, r1, t1⟩ ⟨k2, i2, r2, t2⟩ a b c n m o l k j) := box ⟨hb, HT.out.below hb, P, Q, R, vals_below V1.out hb, vals_below V2.out hb, vals_below V3.out hb⟩
  rw [hW]
  clear hW hb P Q R
  refine (K1.out _ H0.out.tabs).mono ?_
  rintro e w1 ⟨rfl, hb⟩
  have H1 := box (H0.out.later hb)
  clear hb
  have p00 : w1.cell? ⟨w.heap.size, 0, none⟩ = some (.int .u8 kk) := H1.out.b1.cell 0
  have p01 : w1.cell? ⟨w.heap.size, 1, none⟩ = some (.int .i64 ii) := H1.out.b1.cell 1
  have p02 : w1.cell? ⟨w.heap.size, 2, none⟩ = some (.int .u64 rr) := H1.out.b1.cell 2
  have p03 : w1.cell? ⟨w.heap.size, 3, none⟩ = some (.string tt) := H1.out.b1.cell 3
  have p10 : w1.cell? ⟨w.heap.size + 1, 0, none⟩ = some (.int .u8 k1) := H1.out.b2.cell 0
  have p11 : w1.cell? ⟨w.heap.size + 1, 1, none⟩ = some (.int .i64 i1) := H1.out.b2.cell 1
  have p12 : w1.cell? ⟨w.heap.size + 1, 2, none⟩ = some (.int .u64 r1) := H1.out.b2.cell 2
  have p13 : w1.cell? ⟨w.heap.size + 1, 3, none⟩ = some (.string t1) := H1.out.b2.cell 3
  have p20 : w1.cell? ⟨w.heap.size + 1 + 1, 0, none⟩ = some (.int .u8 k2) := H1.out.b3.cell 0
  have p21 : w1.cell? ⟨w.heap.size + 1 + 1, 1, none⟩ = some (.int .i64 i2) := H1.out.b3.cell 1
  have p22 : w1.cell? ⟨w.heap.size + 1 + 1, 2, none⟩ = some (.int .u64 r2) := H1.out.b3.cell 2
  have p23 : w1.cell? ⟨w.heap.size + 1 + 1, 3, none⟩ = some (.string t2) := H1.out.b3.cell 3
  go_wp2_with fail
  refine (K2.out _ H1.out.tabs).mono ?_
  rintro e w2 ⟨rfl, hb⟩
  have H2 := box (H1.out.later hb)
  clear hb p00 p01 p02 p03 p10 p11 p12 p13 p20 p21 p22 p23
  have p00 : w2.cell? ⟨w.heap.size, 0, none⟩ = some (.int .u8 kk) := H2.out.b1.cell 0
  have p01 : w2.cell? ⟨w.heap.size, 1, none⟩ = some (.int .i64 ii) := H2.out.b1.cell 1
  have p02 : w2.cell? ⟨w.heap.size, 2, none⟩ = some (.int .u64 rr) := H2.out.b1.cell 2
  have p03 : w2.cell? ⟨w.heap.size, 3, none⟩ = some (.string tt) := H2.out.b1.cell 3
  have p10 : w2.cell? ⟨w.heap.size + 1, 0, none⟩ = some (.int .u8 k1) := H2.out.b2.cell 0
  have p11 : w2.cell? ⟨w.heap.size + 1, 1, none⟩ = some (.int .i64 i1) := H2.out.b2.cell 1
  have p12 : w2.cell? ⟨w.heap.size + 1, 2, none⟩ = some (.int .u64 r1) := H2.out.b2.cell 2
  have p13 : w2.cell? ⟨w.heap.size + 1, 3, none⟩ = some (.string t1) := H2.out.b2.cell 3
  have p20 : w2.cell? ⟨w.heap.size + 1 + 1, 0, none⟩ = some (.int .u8 k2) := H2.out.b3.cell 0
  have p21 : w2.cell? ⟨w.heap.size + 1 + 1, 1, none⟩ = some (.int .i64 i2) := H2.out.b3.cell 1
  have p22 : w2.cell? ⟨w.heap.size + 1 + 1, 2, none⟩ = some (.int .u64 r2) := H2.out.b3.cell 2
  have p23 : w2.cell? ⟨w.heap.size + 1 + 1, 3, none⟩ = some (.string t2) := H2.out.b3.cell 3
  go_wp2_with fail
  refine (K3.out _ H2.out.tabs).mono ?_
  rintro e w3 ⟨rfl, hb⟩
  have H3 := box (H2.out.later hb)
  clear hb p00 p01 p02 p03 p10 p11 p12 p13 p20 p21 p22 p23
  go_wp2_with fail
  refine (R1.out _ H3.out.v1 H3.out.tabs).mono ?_
  rintro e w4 ⟨rfl, hb⟩
  have H4 := box (H3.out.later hb)
  clear hb
  go_wp2_with fail
  refine (R2.out _ H4.out.v2 H4.out.tabs).mono ?_
  rintro e w5 ⟨rfl, hb⟩
  have H5 := box (H4.out.later hb)
  clear hb
  go_wp2_with fail
  refine (R3.out _ H5.out.v3 H5.out.tabs).mono ?_
  rintro e w6 ⟨rfl, hb⟩
  have H6 := box (H5.out.later hb)
  clear hb
  have p00 : w6.cell? ⟨w.heap.size, 0, none⟩ = some (.int .u8 kk) := H6.out.b1.cell 0
  have p01 : w6.cell? ⟨w.heap.size, 1, none⟩ = some (.int .i64 ii) := H6.out.b1.cell 1
  have p02 : w6.cell? ⟨w.heap.size, 2, none⟩ = some (.int .u64 rr) := H6.out.b1.cell 2
  have p03 : w6.cell? ⟨w.heap.size, 3, none⟩ = some (.string tt) := H6.out.b1.cell 3
  have p10 : w6.cell? ⟨w.heap.size + 1, 0, none⟩ = some (.int .u8 k1) := H6.out.b2.cell 0
  have p11 : w6.cell? ⟨w.heap.size + 1, 1, none⟩ = some (.int .i64 i1) := H6.out.b2.cell 1
  have p12 : w6.cell? ⟨w.heap.size + 1, 2, none⟩ = some (.int .u64 r1) := H6.out.b2.cell 2
  have p13 : w6.cell? ⟨w.heap.size + 1, 3, none⟩ = some (.string t1) := H6.out.b2.cell 3
  have p20 : w6.cell? ⟨w.heap.size + 1 + 1, 0, none⟩ = some (.int .u8 k2) := H6.out.b3.cell 0
  have p21 : w6.cell? ⟨w.heap.size + 1 + 1, 1, none⟩ = some (.int .i64 i2) := H6.out.b3.cell 1
  have p22 : w6.cell? ⟨w.heap.size + 1 + 1, 2, none⟩ = some (.int .u64 r2) := H6.out.b3.cell 2
  have p23 : w6.cell? ⟨w.heap.size + 1 + 1, 3, none⟩ = some (.string t2) := H6.out.b3.cell 3
  go_wp2_with fail
  refine (L12.out _).mono ?_
  rintro e w7 ⟨rfl, hb⟩
  have H7 := box (H6.out.later hb)
  clear hb p00 p01 p02 p03 p10 p11 p12 p13 p20 p21 p22 p23
  have p00 : w7.cell? ⟨w.heap.size, 0, none⟩ = some (.int .u8 kk) := H7.out.b1.cell 0
  have p01 : w7.cell? ⟨w.heap.size, 1, none⟩ = some (.int .i64 ii) := H7.out.b1.cell 1
  have p02 : w7.cell? ⟨w.heap.size, 2, none⟩ = some (.int .u64 rr) := H7.out.b1.cell 2
  have p03 : w7.cell? ⟨w.heap.size, 3, none⟩ = some (.string tt) := H7.out.b1.cell 3
  have p10 : w7.cell? ⟨w.heap.size + 1, 0, none⟩ = some (.int .u8 k1) := H7.out.b2.cell 0
  have p11 : w7.cell? ⟨w.heap.size + 1, 1, none⟩ = some (.int .i64 i1) := H7.out.b2.cell 1
  have p12 : w7.cell? ⟨w.heap.size + 1, 2, none⟩ = some (.int .u64 r1) := H7.out.b2.cell 2
  have p13 : w7.cell? ⟨w.heap.size + 1, 3, none⟩ = some (.string t1) := H7.out.b2.cell 3
  have p20 : w7.cell? ⟨w.heap.size + 1 + 1, 0, none⟩ = some (.int .u8 k2) := H7.out.b3.cell 0
  have p21 : w7.cell? ⟨w.heap.size + 1 + 1, 1, none⟩ = some (.int .i64 i2) := H7.out.b3.cell 1
  have p22 : w7.cell? ⟨w.heap.size + 1 + 1, 2, none⟩ = some (.int .u64 r2) := H7.out.b3.cell 2
  have p23 : w7.cell? ⟨w.heap.size + 1 + 1, 3, none⟩ = some (.string t2) := H7.out.b3.cell 3
  go_wp2_with fail
  refine (L21.out _).mono ?_
  rintro e w8 ⟨rfl, hb⟩
  have H8 := box (H7.out.later hb)
  clear hb p00 p01 p02 p03 p10 p11 p12 p13 p20 p21 p22 p23
  have p00 : w8.cell? ⟨w.heap.size, 0, none⟩ = some (.int .u8 kk) := H8.out.b1.cell 0
  have p01 : w8.cell? ⟨w.heap.size, 1, none⟩ = some (.int .i64 ii) := H8.out.b1.cell 1
  have p02 : w8.cell? ⟨w.heap.size, 2, none⟩ = some (.int .u64 rr) := H8.out.b1.cell 2
  have p03 : w8.cell? ⟨w.heap.size, 3, none⟩ = some (.string tt) := H8.out.b1.cell 3
  have p10 : w8.cell? ⟨w.heap.size + 1, 0, none⟩ = some (.int .u8 k1) := H8.out.b2.cell 0
  have p11 : w8.cell? ⟨w.heap.size + 1, 1, none⟩ = some (.int .i64 i1) := H8.out.b2.cell 1
  have p12 : w8.cell? ⟨w.heap.size + 1, 2, none⟩ = some (.int .u64 r1) := H8.out.b2.cell 2
  have p13 : w8.cell? ⟨w.heap.size + 1, 3, none⟩ = some (.string t1) := H8.out.b2.cell 3
  have p20 : w8.cell? ⟨w.heap.size + 1 + 1, 0, none⟩ = some (.int .u8 k2) := H8.out.b3.cell 0
  have p21 : w8.cell? ⟨w.heap.size + 1 + 1, 1, none⟩ = some (.int .i64 i2) := H8.out.b3.cell 1
  have p22 : w8.cell? ⟨w.heap.size + 1 + 1, 2, none⟩ = some (.int .u64 r2) := H8.out.b3.cell 2
  have p23 : w8.cell? ⟨w.heap.size + 1 + 1, 3, none⟩ = some (.string t2) := H8.out.b3.cell 3
  go_wp2_with fail
  refine (L12.out _).mono ?_
  rintro e w9 ⟨rfl, hb⟩
  have H9 := box (H8.out.later hb)
  clear hb p00 p01 p02 p03 p10 p11 p12 p13 p20 p21 p22 p23
  have p00 : w9.cell? ⟨w.heap.size, 0, none⟩ = some (.int .u8 kk) := H9.out.b1.cell 0
  have p01 : w9.cell? ⟨w.heap.size, 1, none⟩ = some (.int .i64 ii) := H9.out.b1.cell 1
  have p02 : w9.cell? ⟨w.heap.size, 2, none⟩ = some (.int .u64 rr) := H9.out.b1.cell 2
  have p03 : w9.cell? ⟨w.heap.size, 3, none⟩ = some (.string tt) := H9.out.b1.cell 3
  have p10 : w9.cell? ⟨w.heap.size + 1, 0, none⟩ = some (.int .u8 k1) := H9.out.b2.cell 0
  have p11 : w9.cell? ⟨w.heap.size + 1, 1, none⟩ = some (.int .i64 i1) := H9.out.b2.cell 1
  have p12 : w9.cell? ⟨w.heap.size + 1, 2, none⟩ = some (.int .u64 r1) := H9.out.b2.cell 2
  have p13 : w9.cell? ⟨w.heap.size + 1, 3, none⟩ = some (.string t1) := H9.out.b2.cell 3
  have p20 : w9.cell? ⟨w.heap.size + 1 + 1, 0, none⟩ = some (.int .u8 k2) := H9.out.b3.cell 0
  have p21 : w9.cell? ⟨w.heap.size + 1 + 1, 1, none⟩ = some (.int .i64 i2) := H9.out.b3.cell 1
  have p22 : w9.cell? ⟨w.heap.size + 1 + 1, 2, none⟩ = some (.int .u64 r2) := H9.out.b3.cell 2
  have p23 : w9.cell? ⟨w.heap.size + 1 + 1, 3, none⟩ = some (.string t2) := H9.out.b3.cell 3
  go_wp2_with fail
  refine (L23.out _).mono ?_
  rintro e w10 ⟨rfl, hb⟩
  have H10 := box (H9.out.later hb)
  clear hb p00 p01 p02 p03 p10 p11 p12 p13 p20 p21 p22 p23
  have p00 : w10.cell? ⟨w.heap.size, 0, none⟩ = some (.int .u8 kk) := H10.out.b1.cell 0
  have p01 : w10.cell? ⟨w.heap.size, 1, none⟩ = some (.int .i64 ii) := H10.out.b1.cell 1
  have p02 : w10.cell? ⟨w.heap.size, 2, none⟩ = some (.int .u64 rr) := H10.out.b1.cell 2
  have p03 : w10.cell? ⟨w.heap.size, 3, none⟩ = some (.string tt) := H10.out.b1.cell 3
  have p10 : w10.cell? ⟨w.heap.size + 1, 0, none⟩ = some (.int .u8 k1) := H10.out.b2.cell 0
  have p11 : w10.cell? ⟨w.heap.size + 1, 1, none⟩ = some (.int .i64 i1) := H10.out.b2.cell 1
  have p12 : w10.cell? ⟨w.heap.size + 1, 2, none⟩ = some (.int .u64 r1) := H10.out.b2.cell 2
  have p13 : w10.cell? ⟨w.heap.size + 1, 3, none⟩ = some (.string t1) := H10.out.b2.cell 3
  have p20 : w10.cell? ⟨w.heap.size + 1 + 1, 0, none⟩ = some (.int .u8 k2) := H10.out.b3.cell 0
  have p21 : w10.cell? ⟨w.heap.size + 1 + 1, 1, none⟩ = some (.int .i64 i2) := H10.out.b3.cell 1
  have p22 : w10.cell? ⟨w.heap.size + 1 + 1, 2, none⟩ = some (.int .u64 r2) := H10.out.b3.cell 2
  have p23 : w10.cell? ⟨w.heap.size + 1 + 1, 3, none⟩ = some (.string t2) := H10.out.b3.cell 3
  go_wp2_with fail
  refine (L13.out _).mono ?_
  rintro e w11 ⟨rfl, hb⟩
  have H11 := box (H10.out.later hb)
  clear hb p00 p01 p02 p03 p10 p11 p12 p13 p20 p21 p22 p23
  go_wp2_with fail
  refine (P12.out _ H11.out.v1 H11.out.v2).mono ?_
  rintro e w12 ⟨rfl, hb⟩
  have H12 := box (H11.out.later hb)
  clear hb
  go_wp2_with fail
  refine (P21.out _ H12.out.v2 H12.out.v1).mono ?_
  rintro e w13 ⟨rfl, hb⟩
  have H13 := box (H12.out.later hb)
  clear hb
  go_wp2_with fail
  refine (S12.out _ H13.out.v1 H13.out.v2).mono ?_
  rintro e w14 ⟨rfl, hb⟩
  have H14 := box (H13.out.later hb)
  clear hb
  go_wp2_with fail
  refine (P12.out _ H14.out.v1 H14.out.v2).mono ?_
  rintro e w15 ⟨rfl, hb⟩
  have H15 := box (H14.out.later hb)
  clear hb
  go_wp2_with fail
  refine (alive04 _ H15.out.tabs).mono ?_
  rintro e w16 ⟨rfl, hb⟩
  have H16 := box (H15.out.later hb)
  clear hb
  go_wp2_with fail
  go_ret
  exact ⟨rfl, H16.out.below⟩

set_option maxHeartbeats 8000000 in
theorem line_main_ca (kk k1 k2 : Nat) (ii i1 i2 : Int) (rr r1 r2 : Nat) (tt t1 t2 : ByteArray) (a b c : Option Addr) (n m o ca cb cc : Nat) (l k j : List Val) (w : World) (hT : Tabs w) (hv1 : Vals w a n l) (hv2 : Vals w b m k) (hv3 : Vals w c o j)
    (K1 : Box (∀ W, Tabs W → Calls Tryd.prog 14 #[.agg #[.int .u8 kk, .int .i64 ii, .int .u64 rr, .string tt]] W fun e w' => e = .returned (.int .i64 0) ∧ Below W.heap.size W w')) (K2 : Box (∀ W, Tabs W → Calls Tryd.prog 14 #[.agg #[.int .u8 k1, .int .i64 i1, .int .u64 r1, .string t1]] W fun e w' => e = .returned (.int .i64 0) ∧ Below W.heap.size W w')) (K3 : Box (∀ W, Tabs W → Calls Tryd.prog 14 #[.agg #[.int .u8 k2, .int .i64 i2, .int .u64 r2, .string t2]] W fun e w' => e = .returned (.int .i64 0) ∧ Below W.heap.size W w')) (R1 : Box (∀ W, Vals W a n l → Tabs W → Calls Tryd.prog 16 #[.slice a n ca] W fun e w' => e = .returned (.int .i64 0) ∧ Below W.heap.size W w')) (R2 : Box (∀ W, Vals W b m k → Tabs W → Calls Tryd.prog 16 #[.slice b m cb] W fun e w' => e = .returned (.int .i64 0) ∧ Below W.heap.size W w')) (R3 : Box (∀ W, Vals W c o j → Tabs W → Calls Tryd.prog 16 #[.slice c o cc] W fun e w' => e = .returned (.int .i64 0) ∧ Below W.heap.size W w'))
    (L12 : Box (∀ W, Calls Tryd.prog 28 #[.agg #[.int .u8 kk, .int .i64 ii, .int .u64 rr, .string tt], .agg #[.int .u8 k1, .int .i64 i1, .int .u64 r1, .string t1]] W fun e w' => e = .returned (.bool false) ∧ Below W.heap.size W w')) (L21 : Box (∀ W, Calls Tryd.prog 28 #[.agg #[.int .u8 k1, .int .i64 i1, .int .u64 r1, .string t1], .agg #[.int .u8 kk, .int .i64 ii, .int .u64 rr, .string tt]] W fun e w' => e = .returned (.bool true) ∧ Below W.heap.size W w')) (EQ : ∀ w, (Op.equalIn 10000 24 (.agg #[.int .u8 kk, .int .i64 ii, .int .u64 rr, .string tt]) (.agg #[.int .u8 k1, .int .i64 i1, .int .u64 r1, .string t1])).run Tryd.prog w = .ok false w)
    (P12 : Box (∀ W, Vals W a n l → Vals W b m k → Calls Tryd.prog 30 #[.slice a n ca, .slice b m cb] W fun e w' => e = .returned (.bool true) ∧ Below W.heap.size W w')) (P21 : Box (∀ W, Vals W b m k → Vals W a n l → Calls Tryd.prog 30 #[.slice b m cb, .slice a n ca] W fun e w' => e = .returned (.bool false) ∧ Below W.heap.size W w')) (S12 : Box (∀ W, Vals W a n l → Vals W b m k → Calls Tryd.prog 31 #[.slice a n ca, .slice b m cb] W fun e w' => e = .returned (.bool false) ∧ Below W.heap.size W w')) (P23 : Box (∀ W, Vals W b m k → Vals W c o j → Calls Tryd.prog 30 #[.slice b m cb, .slice c o cc] W fun e w' => e = .returned (.bool false) ∧ Below W.heap.size W w')) :
    Calls Tryd.prog 6 #[.agg #[.int .u8 kk, .int .i64 ii, .int .u64 rr, .string tt], .agg #[.int .u8 k1, .int .i64 i1, .int .u64 r1, .string t1], .agg #[.int .u8 k2, .int .i64 i2, .int .u64 r2, .string t2], .slice a n ca, .slice b m cb, .slice c o cc] w fun e w' => e = .returned (.bool true) ∧ Below w.heap.size w w' := by
  have HT := box hT
  have V1 := box hv1
  have V2 := box hv2
  have V3 := box hv3
  clear hT hv1 hv2 hv3
  go_enter Tryd.func6, Tryd.ntmps6
  go_wp2_with fail
  obtain ⟨W, hW, hb, P, Q, R⟩ := three_boxes w #[.int .u8 kk, .int .i64 ii, .int .u64 rr, .string tt] #[.int .u8 k1, .int .i64 i1, .int .u64 r1, .string t1] #[.int .u8 k2, .int .i64 i2, .int .u64 r2, .string t2]
  have H0 : Box (Here w W ⟨kk, ii, rr, tt⟩ ⟨k1, i1, r1, t1⟩ ⟨k2, i2, r2, t2⟩ a b c n m o l k j) := box ⟨hb, HT.out.below hb, P, Q, R, vals_below V1.out hb, vals_below V2.out hb, vals_below V3.out hb⟩
  rw [hW]
  clear hW hb P Q R
  refine (K1.out _ H0.out.tabs).mono ?_
  rintro e w1 ⟨rfl, hb⟩
  have H1 := box (H0.out.later hb)
  clear hb
  have p00 : w1.cell? ⟨w.heap.size, 0, none⟩ = some (.int .u8 kk) := H1.out.b1.cell 0
  have p01 : w1.cell? ⟨w.heap.size, 1, none⟩ = some (.int .i64 ii) := H1.out.b1.cell 1
  have p02 : w1.cell? ⟨w.heap.size, 2, none⟩ = some (.int .u64 rr) := H1.out.b1.cell 2
  have p03 : w1.cell? ⟨w.heap.size, 3, none⟩ = some (.string tt) := H1.out.b1.cell 3
  have p10 : w1.cell? ⟨w.heap.size + 1, 0, none⟩ = some (.int .u8 k1) := H1.out.b2.cell 0
  have p11 : w1.cell? ⟨w.heap.size + 1, 1, none⟩ = some (.int .i64 i1) := H1.out.b2.cell 1
  have p12 : w1.cell? ⟨w.heap.size + 1, 2, none⟩ = some (.int .u64 r1) := H1.out.b2.cell 2
  have p13 : w1.cell? ⟨w.heap.size + 1, 3, none⟩ = some (.string t1) := H1.out.b2.cell 3
  have p20 : w1.cell? ⟨w.heap.size + 1 + 1, 0, none⟩ = some (.int .u8 k2) := H1.out.b3.cell 0
  have p21 : w1.cell? ⟨w.heap.size + 1 + 1, 1, none⟩ = some (.int .i64 i2) := H1.out.b3.cell 1
  have p22 : w1.cell? ⟨w.heap.size + 1 + 1, 2, none⟩ = some (.int .u64 r2) := H1.out.b3.cell 2
  have p23 : w1.cell? ⟨w.heap.size + 1 + 1, 3, none⟩ = some (.string t2) := H1.out.b3.cell 3
  go_wp2_with fail
  refine (K2.out _ H1.out.tabs).mono ?_
  rintro e w2 ⟨rfl, hb⟩
  have H2 := box (H1.out.later hb)
  clear hb p00 p01 p02 p03 p10 p11 p12 p13 p20 p21 p22 p23
  have p00 : w2.cell? ⟨w.heap.size, 0, none⟩ = some (.int .u8 kk) := H2.out.b1.cell 0
  have p01 : w2.cell? ⟨w.heap.size, 1, none⟩ = some (.int .i64 ii) := H2.out.b1.cell 1
  have p02 : w2.cell? ⟨w.heap.size, 2, none⟩ = some (.int .u64 rr) := H2.out.b1.cell 2
  have p03 : w2.cell? ⟨w.heap.size, 3, none⟩ = some (.string tt) := H2.out.b1.cell 3
  have p10 : w2.cell? ⟨w.heap.size + 1, 0, none⟩ = some (.int .u8 k1) := H2.out.b2.cell 0
  have p11 : w2.cell? ⟨w.heap.size + 1, 1, none⟩ = some (.int .i64 i1) := H2.out.b2.cell 1
  have p12 : w2.cell? ⟨w.heap.size + 1, 2, none⟩ = some (.int .u64 r1) := H2.out.b2.cell 2
  have p13 : w2.cell? ⟨w.heap.size + 1, 3, none⟩ = some (.string t1) := H2.out.b2.cell 3
  have p20 : w2.cell? ⟨w.heap.size + 1 + 1, 0, none⟩ = some (.int .u8 k2) := H2.out.b3.cell 0
  have p21 : w2.cell? ⟨w.heap.size + 1 + 1, 1, none⟩ = some (.int .i64 i2) := H2.out.b3.cell 1
  have p22 : w2.cell? ⟨w.heap.size + 1 + 1, 2, none⟩ = some (.int .u64 r2) := H2.out.b3.cell 2
  have p23 : w2.cell? ⟨w.heap.size + 1 + 1, 3, none⟩ = some (.string t2) := H2.out.b3.cell 3
  go_wp2_with fail
  refine (K3.out _ H2.out.tabs).mono ?_
  rintro e w3 ⟨rfl, hb⟩
  have H3 := box (H2.out.later hb)
  clear hb p00 p01 p02 p03 p10 p11 p12 p13 p20 p21 p22 p23
  go_wp2_with fail
  refine (R1.out _ H3.out.v1 H3.out.tabs).mono ?_
  rintro e w4 ⟨rfl, hb⟩
  have H4 := box (H3.out.later hb)
  clear hb
  go_wp2_with fail
  refine (R2.out _ H4.out.v2 H4.out.tabs).mono ?_
  rintro e w5 ⟨rfl, hb⟩
  have H5 := box (H4.out.later hb)
  clear hb
  go_wp2_with fail
  refine (R3.out _ H5.out.v3 H5.out.tabs).mono ?_
  rintro e w6 ⟨rfl, hb⟩
  have H6 := box (H5.out.later hb)
  clear hb
  have p00 : w6.cell? ⟨w.heap.size, 0, none⟩ = some (.int .u8 kk) := H6.out.b1.cell 0
  have p01 : w6.cell? ⟨w.heap.size, 1, none⟩ = some (.int .i64 ii) := H6.out.b1.cell 1
  have p02 : w6.cell? ⟨w.heap.size, 2, none⟩ = some (.int .u64 rr) := H6.out.b1.cell 2
  have p03 : w6.cell? ⟨w.heap.size, 3, none⟩ = some (.string tt) := H6.out.b1.cell 3
  have p10 : w6.cell? ⟨w.heap.size + 1, 0, none⟩ = some (.int .u8 k1) := H6.out.b2.cell 0
  have p11 : w6.cell? ⟨w.heap.size + 1, 1, none⟩ = some (.int .i64 i1) := H6.out.b2.cell 1
  have p12 : w6.cell? ⟨w.heap.size + 1, 2, none⟩ = some (.int .u64 r1) := H6.out.b2.cell 2
  have p13 : w6.cell? ⟨w.heap.size + 1, 3, none⟩ = some (.string t1) := H6.out.b2.cell 3
  have p20 : w6.cell? ⟨w.heap.size + 1 + 1, 0, none⟩ = some (.int .u8 k2) := H6.out.b3.cell 0
  have p21 : w6.cell? ⟨w.heap.size + 1 + 1, 1, none⟩ = some (.int .i64 i2) := H6.out.b3.cell 1
  have p22 : w6.cell? ⟨w.heap.size + 1 + 1, 2, none⟩ = some (.int .u64 r2) := H6.out.b3.cell 2
  have p23 : w6.cell? ⟨w.heap.size + 1 + 1, 3, none⟩ = some (.string t2) := H6.out.b3.cell 3
  go_wp2_with fail
  refine (L12.out _).mono ?_
  rintro e w7 ⟨rfl, hb⟩
  have H7 := box (H6.out.later hb)
  clear hb p00 p01 p02 p03 p10 p11 p12 p13 p20 p21 p22 p23
  have p00 : w7.cell? ⟨w.heap.size, 0, none⟩ = some (.int .u8 kk) := H7.out.b1.cell 0
  have p01 : w7.cell? ⟨w.heap.size, 1, none⟩ = some (.int .i64 ii) := H7.out.b1.cell 1
  have p02 : w7.cell? ⟨w.heap.size, 2, none⟩ = some (.int .u64 rr) := H7.out.b1.cell 2
  have p03 : w7.cell? ⟨w.heap.size, 3, none⟩ = some (.string tt) := H7.out.b1.cell 3
  have p10 : w7.cell? ⟨w.heap.size + 1, 0, none⟩ = some (.int .u8 k1) := H7.out.b2.cell 0
  have p11 : w7.cell? ⟨w.heap.size + 1, 1, none⟩ = some (.int .i64 i1) := H7.out.b2.cell 1
  have p12 : w7.cell? ⟨w.heap.size + 1, 2, none⟩ = some (.int .u64 r1) := H7.out.b2.cell 2
  have p13 : w7.cell? ⟨w.heap.size + 1, 3, none⟩ = some (.string t1) := H7.out.b2.cell 3
  have p20 : w7.cell? ⟨w.heap.size + 1 + 1, 0, none⟩ = some (.int .u8 k2) := H7.out.b3.cell 0
  have p21 : w7.cell? ⟨w.heap.size + 1 + 1, 1, none⟩ = some (.int .i64 i2) := H7.out.b3.cell 1
  have p22 : w7.cell? ⟨w.heap.size + 1 + 1, 2, none⟩ = some (.int .u64 r2) := H7.out.b3.cell 2
  have p23 : w7.cell? ⟨w.heap.size + 1 + 1, 3, none⟩ = some (.string t2) := H7.out.b3.cell 3
  go_wp2_with fail
  refine (L21.out _).mono ?_
  rintro e w8 ⟨rfl, hb⟩
  have H8 := box (H7.out.later hb)
  clear hb p00 p01 p02 p03 p10 p11 p12 p13 p20 p21 p22 p23
  have p00 : w8.cell? ⟨w.heap.size, 0, none⟩ = some (.int .u8 kk) := H8.out.b1.cell 0
  have p01 : w8.cell? ⟨w.heap.size, 1, none⟩ = some (.int .i64 ii) := H8.out.b1.cell 1
  have p02 : w8.cell? ⟨w.heap.size, 2, none⟩ = some (.int .u64 rr) := H8.out.b1.cell 2
  have p03 : w8.cell? ⟨w.heap.size, 3, none⟩ = some (.string tt) := H8.out.b1.cell 3
  have p10 : w8.cell? ⟨w.heap.size + 1, 0, none⟩ = some (.int .u8 k1) := H8.out.b2.cell 0
  have p11 : w8.cell? ⟨w.heap.size + 1, 1, none⟩ = some (.int .i64 i1) := H8.out.b2.cell 1
  have p12 : w8.cell? ⟨w.heap.size + 1, 2, none⟩ = some (.int .u64 r1) := H8.out.b2.cell 2
  have p13 : w8.cell? ⟨w.heap.size + 1, 3, none⟩ = some (.string t1) := H8.out.b2.cell 3
  have p20 : w8.cell? ⟨w.heap.size + 1 + 1, 0, none⟩ = some (.int .u8 k2) := H8.out.b3.cell 0
  have p21 : w8.cell? ⟨w.heap.size + 1 + 1, 1, none⟩ = some (.int .i64 i2) := H8.out.b3.cell 1
  have p22 : w8.cell? ⟨w.heap.size + 1 + 1, 2, none⟩ = some (.int .u64 r2) := H8.out.b3.cell 2
  have p23 : w8.cell? ⟨w.heap.size + 1 + 1, 3, none⟩ = some (.string t2) := H8.out.b3.cell 3
  go_wp2_with fail
  refine (L12.out _).mono ?_
  rintro e w9 ⟨rfl, hb⟩
  have H9 := box (H8.out.later hb)
  clear hb p00 p01 p02 p03 p10 p11 p12 p13 p20 p21 p22 p23
  have p00 : w9.cell? ⟨w.heap.size, 0, none⟩ = some (.int .u8 kk) := H9.out.b1.cell 0
  have p01 : w9.cell? ⟨w.heap.size, 1, none⟩ = some (.int .i64 ii) := H9.out.b1.cell 1
  have p02 : w9.cell? ⟨w.heap.size, 2, none⟩ = some (.int .u64 rr) := H9.out.b1.cell 2
  have p03 : w9.cell? ⟨w.heap.size, 3, none⟩ = some (.string tt) := H9.out.b1.cell 3
  have p10 : w9.cell? ⟨w.heap.size + 1, 0, none⟩ = some (.int .u8 k1) := H9.out.b2.cell 0
  have p11 : w9.cell? ⟨w.heap.size + 1, 1, none⟩ = some (.int .i64 i1) := H9.out.b2.cell 1
  have p12 : w9.cell? ⟨w.heap.size + 1, 2, none⟩ = some (.int .u64 r1) := H9.out.b2.cell 2
  have p13 : w9.cell? ⟨w.heap.size + 1, 3, none⟩ = some (.string t1) := H9.out.b2.cell 3
  have p20 : w9.cell? ⟨w.heap.size + 1 + 1, 0, none⟩ = some (.int .u8 k2) := H9.out.b3.cell 0
  have p21 : w9.cell? ⟨w.heap.size + 1 + 1, 1, none⟩ = some (.int .i64 i2) := H9.out.b3.cell 1
  have p22 : w9.cell? ⟨w.heap.size + 1 + 1, 2, none⟩ = some (.int .u64 r2) := H9.out.b3.cell 2
  have p23 : w9.cell? ⟨w.heap.size + 1 + 1, 3, none⟩ = some (.string t2) := H9.out.b3.cell 3
  go_wp2_with fail
  refine (P12.out _ H9.out.v1 H9.out.v2).mono ?_
  rintro e w10 ⟨rfl, hb⟩
  have H10 := box (H9.out.later hb)
  clear hb p00 p01 p02 p03 p10 p11 p12 p13 p20 p21 p22 p23
  go_wp2_with fail
  refine (P21.out _ H10.out.v2 H10.out.v1).mono ?_
  rintro e w11 ⟨rfl, hb⟩
  have H11 := box (H10.out.later hb)
  clear hb
  go_wp2_with fail
  refine (S12.out _ H11.out.v1 H11.out.v2).mono ?_
  rintro e w12 ⟨rfl, hb⟩
  have H12 := box (H11.out.later hb)
  clear hb
  go_wp2_with fail
  refine (P12.out _ H12.out.v1 H12.out.v2).mono ?_
  rintro e w13 ⟨rfl, hb⟩
  have H13 := box (H12.out.later hb)
  clear hb
  go_wp2_with fail
  refine (P23.out _ H13.out.v2 H13.out.v3).mono ?_
  rintro e w14 ⟨rfl, hb⟩
  have H14 := box (H13.out.later hb)
  clear hb
  go_wp2_with fail
  refine (alive04 _ H14.out.tabs).mono ?_
  rintro e w15 ⟨rfl, hb⟩
  have H15 := box (H14.out.later hb)
  clear hb
  go_wp2_with fail
  go_ret
  exact ⟨rfl, H15.out.below⟩

set_option maxHeartbeats 8000000 in
theorem line_main_cb (kk k1 k2 : Nat) (ii i1 i2 : Int) (rr r1 r2 : Nat) (tt t1 t2 : ByteArray) (a b c : Option Addr) (n m o ca cb cc : Nat) (l k j : List Val) (w : World) (hT : Tabs w) (hv1 : Vals w a n l) (hv2 : Vals w b m k) (hv3 : Vals w c o j)
    (K1 : Box (∀ W, Tabs W → Calls Tryd.prog 14 #[.agg #[.int .u8 kk, .int .i64 ii, .int .u64 rr, .string tt]] W fun e w' => e = .returned (.int .i64 0) ∧ Below W.heap.size W w')) (K2 : Box (∀ W, Tabs W → Calls Tryd.prog 14 #[.agg #[.int .u8 k1, .int .i64 i1, .int .u64 r1, .string t1]] W fun e w' => e = .returned (.int .i64 0) ∧ Below W.heap.size W w')) (K3 : Box (∀ W, Tabs W → Calls Tryd.prog 14 #[.agg #[.int .u8 k2, .int .i64 i2, .int .u64 r2, .string t2]] W fun e w' => e = .returned (.int .i64 0) ∧ Below W.heap.size W w')) (R1 : Box (∀ W, Vals W a n l → Tabs W → Calls Tryd.prog 16 #[.slice a n ca] W fun e w' => e = .returned (.int .i64 0) ∧ Below W.heap.size W w')) (R2 : Box (∀ W, Vals W b m k → Tabs W → Calls Tryd.prog 16 #[.slice b m cb] W fun e w' => e = .returned (.int .i64 0) ∧ Below W.heap.size W w')) (R3 : Box (∀ W, Vals W c o j → Tabs W → Calls Tryd.prog 16 #[.slice c o cc] W fun e w' => e = .returned (.int .i64 0) ∧ Below W.heap.size W w'))
    (L12 : Box (∀ W, Calls Tryd.prog 28 #[.agg #[.int .u8 kk, .int .i64 ii, .int .u64 rr, .string tt], .agg #[.int .u8 k1, .int .i64 i1, .int .u64 r1, .string t1]] W fun e w' => e = .returned (.bool false) ∧ Below W.heap.size W w')) (L21 : Box (∀ W, Calls Tryd.prog 28 #[.agg #[.int .u8 k1, .int .i64 i1, .int .u64 r1, .string t1], .agg #[.int .u8 kk, .int .i64 ii, .int .u64 rr, .string tt]] W fun e w' => e = .returned (.bool true) ∧ Below W.heap.size W w')) (EQ : ∀ w, (Op.equalIn 10000 24 (.agg #[.int .u8 kk, .int .i64 ii, .int .u64 rr, .string tt]) (.agg #[.int .u8 k1, .int .i64 i1, .int .u64 r1, .string t1])).run Tryd.prog w = .ok false w)
    (P12 : Box (∀ W, Vals W a n l → Vals W b m k → Calls Tryd.prog 30 #[.slice a n ca, .slice b m cb] W fun e w' => e = .returned (.bool true) ∧ Below W.heap.size W w')) (P21 : Box (∀ W, Vals W b m k → Vals W a n l → Calls Tryd.prog 30 #[.slice b m cb, .slice a n ca] W fun e w' => e = .returned (.bool false) ∧ Below W.heap.size W w')) (S12 : Box (∀ W, Vals W a n l → Vals W b m k → Calls Tryd.prog 31 #[.slice a n ca, .slice b m cb] W fun e w' => e = .returned (.bool false) ∧ Below W.heap.size W w')) (P23 : Box (∀ W, Vals W b m k → Vals W c o j → Calls Tryd.prog 30 #[.slice b m cb, .slice c o cc] W fun e w' => e = .returned (.bool true) ∧ Below W.heap.size W w')) (P13 : Box (∀ W, Vals W a n l → Vals W c o j → Calls Tryd.prog 30 #[.slice a n ca, .slice c o cc] W fun e w' => e = .returned (.bool true) ∧ Below W.heap.size W w')) :
    Calls Tryd.prog 6 #[.agg #[.int .u8 kk, .int .i64 ii, .int .u64 rr, .string tt], .agg #[.int .u8 k1, .int .i64 i1, .int .u64 r1, .string t1], .agg #[.int .u8 k2, .int .i64 i2, .int .u64 r2, .string t2], .slice a n ca, .slice b m cb, .slice c o cc] w fun e w' => e = .returned (.bool true) ∧ Below w.heap.size w w' := by
  have HT := box hT
  have V1 := box hv1
  have V2 := box hv2
  have V3 := box hv3
  clear hT hv1 hv2 hv3
  go_enter Tryd.func6, Tryd.ntmps6
  go_wp2_with fail
  obtain ⟨W, hW, hb, P, Q, R⟩ := three_boxes w #[.int .u8 kk, .int .i64 ii, .int .u64 rr, .string tt] #[.int .u8 k1, .int .i64 i1, .int .u64 r1, .string t1] #[.int .u8 k2, .int .i64 i2, .int .u64 r2, .string t2]
  have H0 : Box (Here w W ⟨kk, ii, rr, tt⟩ ⟨k1, i1, r1, t1⟩ ⟨k2, i2, r2, t2⟩ a b c n m o l k j) := box ⟨hb, HT.out.below hb, P, Q, R, vals_below V1.out hb, vals_below V2.out hb, vals_below V3.out hb⟩
  rw [hW]
  clear hW hb P Q R
  refine (K1.out _ H0.out.tabs).mono ?_
  rintro e w1 ⟨rfl, hb⟩
  have H1 := box (H0.out.later hb)
  clear hb
  have p00 : w1.cell? ⟨w.heap.size, 0, none⟩ = some (.int .u8 kk) := H1.out.b1.cell 0
  have p01 : w1.cell? ⟨w.heap.size, 1, none⟩ = some (.int .i64 ii) := H1.out.b1.cell 1
  have p02 : w1.cell? ⟨w.heap.size, 2, none⟩ = some (.int .u64 rr) := H1.out.b1.cell 2
  have p03 : w1.cell? ⟨w.heap.size, 3, none⟩ = some (.string tt) := H1.out.b1.cell 3
  have p10 : w1.cell? ⟨w.heap.size + 1, 0, none⟩ = some (.int .u8 k1) := H1.out.b2.cell 0
  have p11 : w1.cell? ⟨w.heap.size + 1, 1, none⟩ = some (.int .i64 i1) := H1.out.b2.cell 1
  have p12 : w1.cell? ⟨w.heap.size + 1, 2, none⟩ = some (.int .u64 r1) := H1.out.b2.cell 2
  have p13 : w1.cell? ⟨w.heap.size + 1, 3, none⟩ = some (.string t1) := H1.out.b2.cell 3
  have p20 : w1.cell? ⟨w.heap.size + 1 + 1, 0, none⟩ = some (.int .u8 k2) := H1.out.b3.cell 0
  have p21 : w1.cell? ⟨w.heap.size + 1 + 1, 1, none⟩ = some (.int .i64 i2) := H1.out.b3.cell 1
  have p22 : w1.cell? ⟨w.heap.size + 1 + 1, 2, none⟩ = some (.int .u64 r2) := H1.out.b3.cell 2
  have p23 : w1.cell? ⟨w.heap.size + 1 + 1, 3, none⟩ = some (.string t2) := H1.out.b3.cell 3
  go_wp2_with fail
  refine (K2.out _ H1.out.tabs).mono ?_
  rintro e w2 ⟨rfl, hb⟩
  have H2 := box (H1.out.later hb)
  clear hb p00 p01 p02 p03 p10 p11 p12 p13 p20 p21 p22 p23
  have p00 : w2.cell? ⟨w.heap.size, 0, none⟩ = some (.int .u8 kk) := H2.out.b1.cell 0
  have p01 : w2.cell? ⟨w.heap.size, 1, none⟩ = some (.int .i64 ii) := H2.out.b1.cell 1
  have p02 : w2.cell? ⟨w.heap.size, 2, none⟩ = some (.int .u64 rr) := H2.out.b1.cell 2
  have p03 : w2.cell? ⟨w.heap.size, 3, none⟩ = some (.string tt) := H2.out.b1.cell 3
  have p10 : w2.cell? ⟨w.heap.size + 1, 0, none⟩ = some (.int .u8 k1) := H2.out.b2.cell 0
  have p11 : w2.cell? ⟨w.heap.size + 1, 1, none⟩ = some (.int .i64 i1) := H2.out.b2.cell 1
  have p12 : w2.cell? ⟨w.heap.size + 1, 2, none⟩ = some (.int .u64 r1) := H2.out.b2.cell 2
  have p13 : w2.cell? ⟨w.heap.size + 1, 3, none⟩ = some (.string t1) := H2.out.b2.cell 3
  have p20 : w2.cell? ⟨w.heap.size + 1 + 1, 0, none⟩ = some (.int .u8 k2) := H2.out.b3.cell 0
  have p21 : w2.cell? ⟨w.heap.size + 1 + 1, 1, none⟩ = some (.int .i64 i2) := H2.out.b3.cell 1
  have p22 : w2.cell? ⟨w.heap.size + 1 + 1, 2, none⟩ = some (.int .u64 r2) := H2.out.b3.cell 2
  have p23 : w2.cell? ⟨w.heap.size + 1 + 1, 3, none⟩ = some (.string t2) := H2.out.b3.cell 3
  go_wp2_with fail
  refine (K3.out _ H2.out.tabs).mono ?_
  rintro e w3 ⟨rfl, hb⟩
  have H3 := box (H2.out.later hb)
  clear hb p00 p01 p02 p03 p10 p11 p12 p13 p20 p21 p22 p23
  go_wp2_with fail
  refine (R1.out _ H3.out.v1 H3.out.tabs).mono ?_
  rintro e w4 ⟨rfl, hb⟩
  have H4 := box (H3.out.later hb)
  clear hb
  go_wp2_with fail
  refine (R2.out _ H4.out.v2 H4.out.tabs).mono ?_
  rintro e w5 ⟨rfl, hb⟩
  have H5 := box (H4.out.later hb)
  clear hb
  go_wp2_with fail
  refine (R3.out _ H5.out.v3 H5.out.tabs).mono ?_
  rintro e w6 ⟨rfl, hb⟩
  have H6 := box (H5.out.later hb)
  clear hb
  have p00 : w6.cell? ⟨w.heap.size, 0, none⟩ = some (.int .u8 kk) := H6.out.b1.cell 0
  have p01 : w6.cell? ⟨w.heap.size, 1, none⟩ = some (.int .i64 ii) := H6.out.b1.cell 1
  have p02 : w6.cell? ⟨w.heap.size, 2, none⟩ = some (.int .u64 rr) := H6.out.b1.cell 2
  have p03 : w6.cell? ⟨w.heap.size, 3, none⟩ = some (.string tt) := H6.out.b1.cell 3
  have p10 : w6.cell? ⟨w.heap.size + 1, 0, none⟩ = some (.int .u8 k1) := H6.out.b2.cell 0
  have p11 : w6.cell? ⟨w.heap.size + 1, 1, none⟩ = some (.int .i64 i1) := H6.out.b2.cell 1
  have p12 : w6.cell? ⟨w.heap.size + 1, 2, none⟩ = some (.int .u64 r1) := H6.out.b2.cell 2
  have p13 : w6.cell? ⟨w.heap.size + 1, 3, none⟩ = some (.string t1) := H6.out.b2.cell 3
  have p20 : w6.cell? ⟨w.heap.size + 1 + 1, 0, none⟩ = some (.int .u8 k2) := H6.out.b3.cell 0
  have p21 : w6.cell? ⟨w.heap.size + 1 + 1, 1, none⟩ = some (.int .i64 i2) := H6.out.b3.cell 1
  have p22 : w6.cell? ⟨w.heap.size + 1 + 1, 2, none⟩ = some (.int .u64 r2) := H6.out.b3.cell 2
  have p23 : w6.cell? ⟨w.heap.size + 1 + 1, 3, none⟩ = some (.string t2) := H6.out.b3.cell 3
  go_wp2_with fail
  refine (L12.out _).mono ?_
  rintro e w7 ⟨rfl, hb⟩
  have H7 := box (H6.out.later hb)
  clear hb p00 p01 p02 p03 p10 p11 p12 p13 p20 p21 p22 p23
  have p00 : w7.cell? ⟨w.heap.size, 0, none⟩ = some (.int .u8 kk) := H7.out.b1.cell 0
  have p01 : w7.cell? ⟨w.heap.size, 1, none⟩ = some (.int .i64 ii) := H7.out.b1.cell 1
  have p02 : w7.cell? ⟨w.heap.size, 2, none⟩ = some (.int .u64 rr) := H7.out.b1.cell 2
  have p03 : w7.cell? ⟨w.heap.size, 3, none⟩ = some (.string tt) := H7.out.b1.cell 3
  have p10 : w7.cell? ⟨w.heap.size + 1, 0, none⟩ = some (.int .u8 k1) := H7.out.b2.cell 0
  have p11 : w7.cell? ⟨w.heap.size + 1, 1, none⟩ = some (.int .i64 i1) := H7.out.b2.cell 1
  have p12 : w7.cell? ⟨w.heap.size + 1, 2, none⟩ = some (.int .u64 r1) := H7.out.b2.cell 2
  have p13 : w7.cell? ⟨w.heap.size + 1, 3, none⟩ = some (.string t1) := H7.out.b2.cell 3
  have p20 : w7.cell? ⟨w.heap.size + 1 + 1, 0, none⟩ = some (.int .u8 k2) := H7.out.b3.cell 0
  have p21 : w7.cell? ⟨w.heap.size + 1 + 1, 1, none⟩ = some (.int .i64 i2) := H7.out.b3.cell 1
  have p22 : w7.cell? ⟨w.heap.size + 1 + 1, 2, none⟩ = some (.int .u64 r2) := H7.out.b3.cell 2
  have p23 : w7.cell? ⟨w.heap.size + 1 + 1, 3, none⟩ = some (.string t2) := H7.out.b3.cell 3
  go_wp2_with fail
  refine (L21.out _).mono ?_
  rintro e w8 ⟨rfl, hb⟩
  have H8 := box (H7.out.later hb)
  clear hb p00 p01 p02 p03 p10 p11 p12 p13 p20 p21 p22 p23
  have p00 : w8.cell? ⟨w.heap.size, 0, none⟩ = some (.int .u8 kk) := H8.out.b1.cell 0
  have p01 : w8.cell? ⟨w.heap.size, 1, none⟩ = some (.int .i64 ii) := H8.out.b1.cell 1
  have p02 : w8.cell? ⟨w.heap.size, 2, none⟩ = some (.int .u64 rr) := H8.out.b1.cell 2
  have p03 : w8.cell? ⟨w.heap.size, 3, none⟩ = some (.string tt) := H8.out.b1.cell 3
  have p10 : w8.cell? ⟨w.heap.size + 1, 0, none⟩ = some (.int .u8 k1) := H8.out.b2.cell 0
  have p11 : w8.cell? ⟨w.heap.size + 1, 1, none⟩ = some (.int .i64 i1) := H8.out.b2.cell 1
  have p12 : w8.cell? ⟨w.heap.size + 1, 2, none⟩ = some (.int .u64 r1) := H8.out.b2.cell 2
  have p13 : w8.cell? ⟨w.heap.size + 1, 3, none⟩ = some (.string t1) := H8.out.b2.cell 3
  have p20 : w8.cell? ⟨w.heap.size + 1 + 1, 0, none⟩ = some (.int .u8 k2) := H8.out.b3.cell 0
  have p21 : w8.cell? ⟨w.heap.size + 1 + 1, 1, none⟩ = some (.int .i64 i2) := H8.out.b3.cell 1
  have p22 : w8.cell? ⟨w.heap.size + 1 + 1, 2, none⟩ = some (.int .u64 r2) := H8.out.b3.cell 2
  have p23 : w8.cell? ⟨w.heap.size + 1 + 1, 3, none⟩ = some (.string t2) := H8.out.b3.cell 3
  go_wp2_with fail
  refine (L12.out _).mono ?_
  rintro e w9 ⟨rfl, hb⟩
  have H9 := box (H8.out.later hb)
  clear hb p00 p01 p02 p03 p10 p11 p12 p13 p20 p21 p22 p23
  have p00 : w9.cell? ⟨w.heap.size, 0, none⟩ = some (.int .u8 kk) := H9.out.b1.cell 0
  have p01 : w9.cell? ⟨w.heap.size, 1, none⟩ = some (.int .i64 ii) := H9.out.b1.cell 1
  have p02 : w9.cell? ⟨w.heap.size, 2, none⟩ = some (.int .u64 rr) := H9.out.b1.cell 2
  have p03 : w9.cell? ⟨w.heap.size, 3, none⟩ = some (.string tt) := H9.out.b1.cell 3
  have p10 : w9.cell? ⟨w.heap.size + 1, 0, none⟩ = some (.int .u8 k1) := H9.out.b2.cell 0
  have p11 : w9.cell? ⟨w.heap.size + 1, 1, none⟩ = some (.int .i64 i1) := H9.out.b2.cell 1
  have p12 : w9.cell? ⟨w.heap.size + 1, 2, none⟩ = some (.int .u64 r1) := H9.out.b2.cell 2
  have p13 : w9.cell? ⟨w.heap.size + 1, 3, none⟩ = some (.string t1) := H9.out.b2.cell 3
  have p20 : w9.cell? ⟨w.heap.size + 1 + 1, 0, none⟩ = some (.int .u8 k2) := H9.out.b3.cell 0
  have p21 : w9.cell? ⟨w.heap.size + 1 + 1, 1, none⟩ = some (.int .i64 i2) := H9.out.b3.cell 1
  have p22 : w9.cell? ⟨w.heap.size + 1 + 1, 2, none⟩ = some (.int .u64 r2) := H9.out.b3.cell 2
  have p23 : w9.cell? ⟨w.heap.size + 1 + 1, 3, none⟩ = some (.string t2) := H9.out.b3.cell 3
  go_wp2_with fail
  refine (P12.out _ H9.out.v1 H9.out.v2).mono ?_
  rintro e w10 ⟨rfl, hb⟩
  have H10 := box (H9.out.later hb)
  clear hb p00 p01 p02 p03 p10 p11 p12 p13 p20 p21 p22 p23
  go_wp2_with fail
  refine (P21.out _ H10.out.v2 H10.out.v1).mono ?_
  rintro e w11 ⟨rfl, hb⟩
  have H11 := box (H10.out.later hb)
  clear hb
  go_wp2_with fail
  refine (S12.out _ H11.out.v1 H11.out.v2).mono ?_
  rintro e w12 ⟨rfl, hb⟩
  have H12 := box (H11.out.later hb)
  clear hb
  go_wp2_with fail
  refine (P12.out _ H12.out.v1 H12.out.v2).mono ?_
  rintro e w13 ⟨rfl, hb⟩
  have H13 := box (H12.out.later hb)
  clear hb
  go_wp2_with fail
  refine (P23.out _ H13.out.v2 H13.out.v3).mono ?_
  rintro e w14 ⟨rfl, hb⟩
  have H14 := box (H13.out.later hb)
  clear hb
  go_wp2_with fail
  refine (P13.out _ H14.out.v1 H14.out.v3).mono ?_
  rintro e w15 ⟨rfl, hb⟩
  have H15 := box (H14.out.later hb)
  clear hb
  go_wp2_with fail
  refine (alive04 _ H15.out.tabs).mono ?_
  rintro e w16 ⟨rfl, hb⟩
  have H16 := box (H15.out.later hb)
  clear hb
  go_wp2_with fail
  go_ret
  exact ⟨rfl, H16.out.below⟩

set_option maxHeartbeats 8000000 in
theorem line_main_cc (kk k1 k2 : Nat) (ii i1 i2 : Int) (rr r1 r2 : Nat) (tt t1 t2 : ByteArray) (a b c : Option Addr) (n m o ca cb cc : Nat) (l k j : List Val) (w : World) (hT : Tabs w) (hv1 : Vals w a n l) (hv2 : Vals w b m k) (hv3 : Vals w c o j)
    (K1 : Box (∀ W, Tabs W → Calls Tryd.prog 14 #[.agg #[.int .u8 kk, .int .i64 ii, .int .u64 rr, .string tt]] W fun e w' => e = .returned (.int .i64 0) ∧ Below W.heap.size W w')) (K2 : Box (∀ W, Tabs W → Calls Tryd.prog 14 #[.agg #[.int .u8 k1, .int .i64 i1, .int .u64 r1, .string t1]] W fun e w' => e = .returned (.int .i64 0) ∧ Below W.heap.size W w')) (K3 : Box (∀ W, Tabs W → Calls Tryd.prog 14 #[.agg #[.int .u8 k2, .int .i64 i2, .int .u64 r2, .string t2]] W fun e w' => e = .returned (.int .i64 0) ∧ Below W.heap.size W w')) (R1 : Box (∀ W, Vals W a n l → Tabs W → Calls Tryd.prog 16 #[.slice a n ca] W fun e w' => e = .returned (.int .i64 0) ∧ Below W.heap.size W w')) (R2 : Box (∀ W, Vals W b m k → Tabs W → Calls Tryd.prog 16 #[.slice b m cb] W fun e w' => e = .returned (.int .i64 0) ∧ Below W.heap.size W w')) (R3 : Box (∀ W, Vals W c o j → Tabs W → Calls Tryd.prog 16 #[.slice c o cc] W fun e w' => e = .returned (.int .i64 0) ∧ Below W.heap.size W w'))
    (L12 : Box (∀ W, Calls Tryd.prog 28 #[.agg #[.int .u8 kk, .int .i64 ii, .int .u64 rr, .string tt], .agg #[.int .u8 k1, .int .i64 i1, .int .u64 r1, .string t1]] W fun e w' => e = .returned (.bool false) ∧ Below W.heap.size W w')) (L21 : Box (∀ W, Calls Tryd.prog 28 #[.agg #[.int .u8 k1, .int .i64 i1, .int .u64 r1, .string t1], .agg #[.int .u8 kk, .int .i64 ii, .int .u64 rr, .string tt]] W fun e w' => e = .returned (.bool true) ∧ Below W.heap.size W w')) (EQ : ∀ w, (Op.equalIn 10000 24 (.agg #[.int .u8 kk, .int .i64 ii, .int .u64 rr, .string tt]) (.agg #[.int .u8 k1, .int .i64 i1, .int .u64 r1, .string t1])).run Tryd.prog w = .ok false w)
    (P12 : Box (∀ W, Vals W a n l → Vals W b m k → Calls Tryd.prog 30 #[.slice a n ca, .slice b m cb] W fun e w' => e = .returned (.bool false) ∧ Below W.heap.size W w')) (P21 : Box (∀ W, Vals W b m k → Vals W a n l → Calls Tryd.prog 30 #[.slice b m cb, .slice a n ca] W fun e w' => e = .returned (.bool true) ∧ Below W.heap.size W w')) (S12 : Box (∀ W, Vals W a n l → Vals W b m k → Calls Tryd.prog 31 #[.slice a n ca, .slice b m cb] W fun e w' => e = .returned (.bool false) ∧ Below W.heap.size W w')) :
    Calls Tryd.prog 6 #[.agg #[.int .u8 kk, .int .i64 ii, .int .u64 rr, .string tt], .agg #[.int .u8 k1, .int .i64 i1, .int .u64 r1, .string t1], .agg #[.int .u8 k2, .int .i64 i2, .int .u64 r2, .string t2], .slice a n ca, .slice b m cb, .slice c o cc] w fun e w' => e = .returned (.bool true) ∧ Below w.heap.size w w' := by
  have HT := box hT
  have V1 := box hv1
  have V2 := box hv2
  have V3 := box hv3
  clear hT hv1 hv2 hv3
  go_enter Tryd.func6, Tryd.ntmps6
  go_wp2_with fail
  obtain ⟨W, hW, hb, P, Q, R⟩ := three_boxes w #[.int .u8 kk, .int .i64 ii, .int .u64 rr, .string tt] #[.int .u8 k1, .int .i64 i1, .int .u64 r1, .string t1] #[.int .u8 k2, .int .i64 i2, .int .u64 r2, .string t2]
  have H0 : Box (Here w W ⟨kk, ii, rr, tt⟩ ⟨k1, i1, r1, t1⟩ ⟨k2, i2, r2, t2⟩ a b c n m o l k j) := box ⟨hb, HT.out.below hb, P, Q, R, vals_below V1.out hb, vals_below V2.out hb, vals_below V3.out hb⟩
  rw [hW]
  clear hW hb P Q R
  refine (K1.out _ H0.out.tabs).mono ?_
  rintro e w1 ⟨rfl, hb⟩
  have H1 := box (H0.out.later hb)
  clear hb
  have p00 : w1.cell? ⟨w.heap.size, 0, none⟩ = some (.int .u8 kk) := H1.out.b1.cell 0
  have p01 : w1.cell? ⟨w.heap.size, 1, none⟩ = some (.int .i64 ii) := H1.out.b1.cell 1
  have p02 : w1.cell? ⟨w.heap.size, 2, none⟩ = some (.int .u64 rr) := H1.out.b1.cell 2
  have p03 : w1.cell? ⟨w.heap.size, 3, none⟩ = some (.string tt) := H1.out.b1.cell 3
  have p10 : w1.cell? ⟨w.heap.size + 1, 0, none⟩ = some (.int .u8 k1) := H1.out.b2.cell 0
  have p11 : w1.cell? ⟨w.heap.size + 1, 1, none⟩ = some (.int .i64 i1) := H1.out.b2.cell 1
  have p12 : w1.cell? ⟨w.heap.size + 1, 2, none⟩ = some (.int .u64 r1) := H1.out.b2.cell 2
  have p13 : w1.cell? ⟨w.heap.size + 1, 3, none⟩ = some (.string t1) := H1.out.b2.cell 3
  have p20 : w1.cell? ⟨w.heap.size + 1 + 1, 0, none⟩ = some (.int .u8 k2) := H1.out.b3.cell 0
  have p21 : w1.cell? ⟨w.heap.size + 1 + 1, 1, none⟩ = some (.int .i64 i2) := H1.out.b3.cell 1
  have p22 : w1.cell? ⟨w.heap.size + 1 + 1, 2, none⟩ = some (.int .u64 r2) := H1.out.b3.cell 2
  have p23 : w1.cell? ⟨w.heap.size + 1 + 1, 3, none⟩ = some (.string t2) := H1.out.b3.cell 3
  go_wp2_with fail
  refine (K2.out _ H1.out.tabs).mono ?_
  rintro e w2 ⟨rfl, hb⟩
  have H2 := box (H1.out.later hb)
  clear hb p00 p01 p02 p03 p10 p11 p12 p13 p20 p21 p22 p23
  have p00 : w2.cell? ⟨w.heap.size, 0, none⟩ = some (.int .u8 kk) := H2.out.b1.cell 0
  have p01 : w2.cell? ⟨w.heap.size, 1, none⟩ = some (.int .i64 ii) := H2.out.b1.cell 1
  have p02 : w2.cell? ⟨w.heap.size, 2, none⟩ = some (.int .u64 rr) := H2.out.b1.cell 2
  have p03 : w2.cell? ⟨w.heap.size, 3, none⟩ = some (.string tt) := H2.out.b1.cell 3
  have p10 : w2.cell? ⟨w.heap.size + 1, 0, none⟩ = some (.int .u8 k1) := H2.out.b2.cell 0
  have p11 : w2.cell? ⟨w.heap.size + 1, 1, none⟩ = some (.int .i64 i1) := H2.out.b2.cell 1
  have p12 : w2.cell? ⟨w.heap.size + 1, 2, none⟩ = some (.int .u64 r1) := H2.out.b2.cell 2
  have p13 : w2.cell? ⟨w.heap.size + 1, 3, none⟩ = some (.string t1) := H2.out.b2.cell 3
  have p20 : w2.cell? ⟨w.heap.size + 1 + 1, 0, none⟩ = some (.int .u8 k2) := H2.out.b3.cell 0
  have p21 : w2.cell? ⟨w.heap.size + 1 + 1, 1, none⟩ = some (.int .i64 i2) := H2.out.b3.cell 1
  have p22 : w2.cell? ⟨w.heap.size + 1 + 1, 2, none⟩ = some (.int .u64 r2) := H2.out.b3.cell 2
  have p23 : w2.cell? ⟨w.heap.size + 1 + 1, 3, none⟩ = some (.string t2) := H2.out.b3.cell 3
  go_wp2_with fail
  refine (K3.out _ H2.out.tabs).mono ?_
  rintro e w3 ⟨rfl, hb⟩
  have H3 := box (H2.out.later hb)
  clear hb p00 p01 p02 p03 p10 p11 p12 p13 p20 p21 p22 p23
  go_wp2_with fail
  refine (R1.out _ H3.out.v1 H3.out.tabs).mono ?_
  rintro e w4 ⟨rfl, hb⟩
  have H4 := box (H3.out.later hb)
  clear hb
  go_wp2_with fail
  refine (R2.out _ H4.out.v2 H4.out.tabs).mono ?_
  rintro e w5 ⟨rfl, hb⟩
  have H5 := box (H4.out.later hb)
  clear hb
  go_wp2_with fail
  refine (R3.out _ H5.out.v3 H5.out.tabs).mono ?_
  rintro e w6 ⟨rfl, hb⟩
  have H6 := box (H5.out.later hb)
  clear hb
  have p00 : w6.cell? ⟨w.heap.size, 0, none⟩ = some (.int .u8 kk) := H6.out.b1.cell 0
  have p01 : w6.cell? ⟨w.heap.size, 1, none⟩ = some (.int .i64 ii) := H6.out.b1.cell 1
  have p02 : w6.cell? ⟨w.heap.size, 2, none⟩ = some (.int .u64 rr) := H6.out.b1.cell 2
  have p03 : w6.cell? ⟨w.heap.size, 3, none⟩ = some (.string tt) := H6.out.b1.cell 3
  have p10 : w6.cell? ⟨w.heap.size + 1, 0, none⟩ = some (.int .u8 k1) := H6.out.b2.cell 0
  have p11 : w6.cell? ⟨w.heap.size + 1, 1, none⟩ = some (.int .i64 i1) := H6.out.b2.cell 1
  have p12 : w6.cell? ⟨w.heap.size + 1, 2, none⟩ = some (.int .u64 r1) := H6.out.b2.cell 2
  have p13 : w6.cell? ⟨w.heap.size + 1, 3, none⟩ = some (.string t1) := H6.out.b2.cell 3
  have p20 : w6.cell? ⟨w.heap.size + 1 + 1, 0, none⟩ = some (.int .u8 k2) := H6.out.b3.cell 0
  have p21 : w6.cell? ⟨w.heap.size + 1 + 1, 1, none⟩ = some (.int .i64 i2) := H6.out.b3.cell 1
  have p22 : w6.cell? ⟨w.heap.size + 1 + 1, 2, none⟩ = some (.int .u64 r2) := H6.out.b3.cell 2
  have p23 : w6.cell? ⟨w.heap.size + 1 + 1, 3, none⟩ = some (.string t2) := H6.out.b3.cell 3
  go_wp2_with fail
  refine (L12.out _).mono ?_
  rintro e w7 ⟨rfl, hb⟩
  have H7 := box (H6.out.later hb)
  clear hb p00 p01 p02 p03 p10 p11 p12 p13 p20 p21 p22 p23
  have p00 : w7.cell? ⟨w.heap.size, 0, none⟩ = some (.int .u8 kk) := H7.out.b1.cell 0
  have p01 : w7.cell? ⟨w.heap.size, 1, none⟩ = some (.int .i64 ii) := H7.out.b1.cell 1
  have p02 : w7.cell? ⟨w.heap.size, 2, none⟩ = some (.int .u64 rr) := H7.out.b1.cell 2
  have p03 : w7.cell? ⟨w.heap.size, 3, none⟩ = some (.string tt) := H7.out.b1.cell 3
  have p10 : w7.cell? ⟨w.heap.size + 1, 0, none⟩ = some (.int .u8 k1) := H7.out.b2.cell 0
  have p11 : w7.cell? ⟨w.heap.size + 1, 1, none⟩ = some (.int .i64 i1) := H7.out.b2.cell 1
  have p12 : w7.cell? ⟨w.heap.size + 1, 2, none⟩ = some (.int .u64 r1) := H7.out.b2.cell 2
  have p13 : w7.cell? ⟨w.heap.size + 1, 3, none⟩ = some (.string t1) := H7.out.b2.cell 3
  have p20 : w7.cell? ⟨w.heap.size + 1 + 1, 0, none⟩ = some (.int .u8 k2) := H7.out.b3.cell 0
  have p21 : w7.cell? ⟨w.heap.size + 1 + 1, 1, none⟩ = some (.int .i64 i2) := H7.out.b3.cell 1
  have p22 : w7.cell? ⟨w.heap.size + 1 + 1, 2, none⟩ = some (.int .u64 r2) := H7.out.b3.cell 2
  have p23 : w7.cell? ⟨w.heap.size + 1 + 1, 3, none⟩ = some (.string t2) := H7.out.b3.cell 3
  go_wp2_with fail
  refine (L21.out _).mono ?_
  rintro e w8 ⟨rfl, hb⟩
  have H8 := box (H7.out.later hb)
  clear hb p00 p01 p02 p03 p10 p11 p12 p13 p20 p21 p22 p23
  have p00 : w8.cell? ⟨w.heap.size, 0, none⟩ = some (.int .u8 kk) := H8.out.b1.cell 0
  have p01 : w8.cell? ⟨w.heap.size, 1, none⟩ = some (.int .i64 ii) := H8.out.b1.cell 1
  have p02 : w8.cell? ⟨w.heap.size, 2, none⟩ = some (.int .u64 rr) := H8.out.b1.cell 2
  have p03 : w8.cell? ⟨w.heap.size, 3, none⟩ = some (.string tt) := H8.out.b1.cell 3
  have p10 : w8.cell? ⟨w.heap.size + 1, 0, none⟩ = some (.int .u8 k1) := H8.out.b2.cell 0
  have p11 : w8.cell? ⟨w.heap.size + 1, 1, none⟩ = some (.int .i64 i1) := H8.out.b2.cell 1
  have p12 : w8.cell? ⟨w.heap.size + 1, 2, none⟩ = some (.int .u64 r1) := H8.out.b2.cell 2
  have p13 : w8.cell? ⟨w.heap.size + 1, 3, none⟩ = some (.string t1) := H8.out.b2.cell 3
  have p20 : w8.cell? ⟨w.heap.size + 1 + 1, 0, none⟩ = some (.int .u8 k2) := H8.out.b3.cell 0
  have p21 : w8.cell? ⟨w.heap.size + 1 + 1, 1, none⟩ = some (.int .i64 i2) := H8.out.b3.cell 1
  have p22 : w8.cell? ⟨w.heap.size + 1 + 1, 2, none⟩ = some (.int .u64 r2) := H8.out.b3.cell 2
  have p23 : w8.cell? ⟨w.heap.size + 1 + 1, 3, none⟩ = some (.string t2) := H8.out.b3.cell 3
  go_wp2_with fail
  refine (L12.out _).mono ?_
  rintro e w9 ⟨rfl, hb⟩
  have H9 := box (H8.out.later hb)
  clear hb p00 p01 p02 p03 p10 p11 p12 p13 p20 p21 p22 p23
  have p00 : w9.cell? ⟨w.heap.size, 0, none⟩ = some (.int .u8 kk) := H9.out.b1.cell 0
  have p01 : w9.cell? ⟨w.heap.size, 1, none⟩ = some (.int .i64 ii) := H9.out.b1.cell 1
  have p02 : w9.cell? ⟨w.heap.size, 2, none⟩ = some (.int .u64 rr) := H9.out.b1.cell 2
  have p03 : w9.cell? ⟨w.heap.size, 3, none⟩ = some (.string tt) := H9.out.b1.cell 3
  have p10 : w9.cell? ⟨w.heap.size + 1, 0, none⟩ = some (.int .u8 k1) := H9.out.b2.cell 0
  have p11 : w9.cell? ⟨w.heap.size + 1, 1, none⟩ = some (.int .i64 i1) := H9.out.b2.cell 1
  have p12 : w9.cell? ⟨w.heap.size + 1, 2, none⟩ = some (.int .u64 r1) := H9.out.b2.cell 2
  have p13 : w9.cell? ⟨w.heap.size + 1, 3, none⟩ = some (.string t1) := H9.out.b2.cell 3
  have p20 : w9.cell? ⟨w.heap.size + 1 + 1, 0, none⟩ = some (.int .u8 k2) := H9.out.b3.cell 0
  have p21 : w9.cell? ⟨w.heap.size + 1 + 1, 1, none⟩ = some (.int .i64 i2) := H9.out.b3.cell 1
  have p22 : w9.cell? ⟨w.heap.size + 1 + 1, 2, none⟩ = some (.int .u64 r2) := H9.out.b3.cell 2
  have p23 : w9.cell? ⟨w.heap.size + 1 + 1, 3, none⟩ = some (.string t2) := H9.out.b3.cell 3
  go_wp2_with fail
  refine (P12.out _ H9.out.v1 H9.out.v2).mono ?_
  rintro e w10 ⟨rfl, hb⟩
  have H10 := box (H9.out.later hb)
  clear hb p00 p01 p02 p03 p10 p11 p12 p13 p20 p21 p22 p23
  go_wp2_with fail
  refine (P21.out _ H10.out.v2 H10.out.v1).mono ?_
  rintro e w11 ⟨rfl, hb⟩
  have H11 := box (H10.out.later hb)
  clear hb
  go_wp2_with fail
  refine (S12.out _ H11.out.v1 H11.out.v2).mono ?_
  rintro e w12 ⟨rfl, hb⟩
  have H12 := box (H11.out.later hb)
  clear hb
  go_wp2_with fail
  refine (P12.out _ H12.out.v1 H12.out.v2).mono ?_
  rintro e w13 ⟨rfl, hb⟩
  have H13 := box (H12.out.later hb)
  clear hb
  go_wp2_with fail
  refine (alive04 _ H13.out.tabs).mono ?_
  rintro e w14 ⟨rfl, hb⟩
  have H14 := box (H13.out.later hb)
  clear hb
  go_wp2_with fail
  go_ret
  exact ⟨rfl, H14.out.below⟩

set_option maxHeartbeats 8000000 in
theorem line_main_cd (kk k1 k2 : Nat) (ii i1 i2 : Int) (rr r1 r2 : Nat) (tt t1 t2 : ByteArray) (a b c : Option Addr) (n m o ca cb cc : Nat) (l k j : List Val) (w : World) (hT : Tabs w) (hv1 : Vals w a n l) (hv2 : Vals w b m k) (hv3 : Vals w c o j)
    (K1 : Box (∀ W, Tabs W → Calls Tryd.prog 14 #[.agg #[.int .u8 kk, .int .i64 ii, .int .u64 rr, .string tt]] W fun e w' => e = .returned (.int .i64 0) ∧ Below W.heap.size W w')) (K2 : Box (∀ W, Tabs W → Calls Tryd.prog 14 #[.agg #[.int .u8 k1, .int .i64 i1, .int .u64 r1, .string t1]] W fun e w' => e = .returned (.int .i64 0) ∧ Below W.heap.size W w')) (K3 : Box (∀ W, Tabs W → Calls Tryd.prog 14 #[.agg #[.int .u8 k2, .int .i64 i2, .int .u64 r2, .string t2]] W fun e w' => e = .returned (.int .i64 0) ∧ Below W.heap.size W w')) (R1 : Box (∀ W, Vals W a n l → Tabs W → Calls Tryd.prog 16 #[.slice a n ca] W fun e w' => e = .returned (.int .i64 0) ∧ Below W.heap.size W w')) (R2 : Box (∀ W, Vals W b m k → Tabs W → Calls Tryd.prog 16 #[.slice b m cb] W fun e w' => e = .returned (.int .i64 0) ∧ Below W.heap.size W w')) (R3 : Box (∀ W, Vals W c o j → Tabs W → Calls Tryd.prog 16 #[.slice c o cc] W fun e w' => e = .returned (.int .i64 0) ∧ Below W.heap.size W w'))
    (L12 : Box (∀ W, Calls Tryd.prog 28 #[.agg #[.int .u8 kk, .int .i64 ii, .int .u64 rr, .string tt], .agg #[.int .u8 k1, .int .i64 i1, .int .u64 r1, .string t1]] W fun e w' => e = .returned (.bool false) ∧ Below W.heap.size W w')) (L21 : Box (∀ W, Calls Tryd.prog 28 #[.agg #[.int .u8 k1, .int .i64 i1, .int .u64 r1, .string t1], .agg #[.int .u8 kk, .int .i64 ii, .int .u64 rr, .string tt]] W fun e w' => e = .returned (.bool true) ∧ Below W.heap.size W w')) (EQ : ∀ w, (Op.equalIn 10000 24 (.agg #[.int .u8 kk, .int .i64 ii, .int .u64 rr, .string tt]) (.agg #[.int .u8 k1, .int .i64 i1, .int .u64 r1, .string t1])).run Tryd.prog w = .ok false w)
    (P12 : Box (∀ W, Vals W a n l → Vals W b m k → Calls Tryd.prog 30 #[.slice a n ca, .slice b m cb] W fun e w' => e = .returned (.bool false) ∧ Below W.heap.size W w')) (P21 : Box (∀ W, Vals W b m k → Vals W a n l → Calls Tryd.prog 30 #[.slice b m cb, .slice a n ca] W fun e w' => e = .returned (.bool false) ∧ Below W.heap.size W w')) (S12 : Box (∀ W, Vals W a n l → Vals W b m k → Calls Tryd.prog 31 #[.slice a n ca, .slice b m cb] W fun e w' => e = .returned (.bool true) ∧ Below W.heap.size W w')) :
    Calls Tryd.prog 6 #[.agg #[.int .u8 kk, .int .i64 ii, .int .u64 rr, .string tt], .agg #[.int .u8 k1, .int .i64 i1, .int .u64 r1, .string t1], .agg #[.int .u8 k2, .int .i64 i2, .int .u64 r2, .string t2], .slice a n ca, .slice b m cb, .slice c o cc] w fun e w' => e = .returned (.bool true) ∧ Below w.heap.size w w' := by
  have HT := box hT
  have V1 := box hv1
  have V2 := box hv2
  have V3 := box hv3
  clear hT hv1 hv2 hv3
  go_enter Tryd.func6, Tryd.ntmps6
  go_wp2_with fail
  obtain ⟨W, hW, hb, P, Q, R⟩ := three_boxes w #[.int .u8 kk, .int .i64 ii, .int .u64 rr, .string tt] #[.int .u8 k1, .int .i64 i1, .int .u64 r1, .string t1] #[.int .u8 k2, .int .i64 i2, .int .u64 r2, .string t2]
  have H0 : Box (Here w W ⟨kk, ii, rr, tt⟩ ⟨k1, i1, r1, t1⟩ ⟨k2, i2, r2, t2⟩ a b c n m o l k j) := box ⟨hb, HT.out.below hb, P, Q, R, vals_below V1.out hb, vals_below V2.out hb, vals_below V3.out hb⟩
  rw [hW]
  clear hW hb P Q R
  refine (K1.out _ H0.out.tabs).mono ?_
  rintro e w1 ⟨rfl, hb⟩
  have H1 := box (H0.out.later hb)
  clear hb
  have p00 : w1.cell? ⟨w.heap.size, 0, none⟩ = some (.int .u8 kk) := H1.out.b1.cell 0
  have p01 : w1.cell? ⟨w.heap.size, 1, none⟩ = some (.int .i64 ii) := H1.out.b1.cell 1
  have p02 : w1.cell? ⟨w.heap.size, 2, none⟩ = some (.int .u64 rr) := H1.out.b1.cell 2
  have p03 : w1.cell? ⟨w.heap.size, 3, none⟩ = some (.string tt) := H1.out.b1.cell 3
  have p10 : w1.cell? ⟨w.heap.size + 1, 0, none⟩ = some (.int .u8 k1) := H1.out.b2.cell 0
  have p11 : w1.cell? ⟨w.heap.size + 1, 1, none⟩ = some (.int .i64 i1) := H1.out.b2.cell 1
  have p12 : w1.cell? ⟨w.heap.size + 1, 2, none⟩ = some (.int .u64 r1) := H1.out.b2.cell 2
  have p13 : w1.cell? ⟨w.heap.size + 1, 3, none⟩ = some (.string t1) := H1.out.b2.cell 3
  have p20 : w1.cell? ⟨w.heap.size + 1 + 1, 0, none⟩ = some (.int .u8 k2) := H1.out.b3.cell 0
  have p21 : w1.cell? ⟨w.heap.size + 1 + 1, 1, none⟩ = some (.int .i64 i2) := H1.out.b3.cell 1
  have p22 : w1.cell? ⟨w.heap.size + 1 + 1, 2, none⟩ = some (.int .u64 r2) := H1.out.b3.cell 2
  have p23 : w1.cell? ⟨w.heap.size + 1 + 1, 3, none⟩ = some (.string t2) := H1.out.b3.cell 3
  go_wp2_with fail
  refine (K2.out _ H1.out.tabs).mono ?_
  rintro e w2 ⟨rfl, hb⟩
  have H2 := box (H1.out.later hb)
  clear hb p00 p01 p02 p03 p10 p11 p12 p13 p20 p21 p22 p23
  have p00 : w2.cell? ⟨w.heap.size, 0, none⟩ = some (.int .u8 kk) := H2.out.b1.cell 0
  have p01 : w2.cell? ⟨w.heap.size, 1, none⟩ = some (.int .i64 ii) := H2.out.b1.cell 1
  have p02 : w2.cell? ⟨w.heap.size, 2, none⟩ = some (.int .u64 rr) := H2.out.b1.cell 2
  have p03 : w2.cell? ⟨w.heap.size, 3, none⟩ = some (.string tt) := H2.out.b1.cell 3
  have p10 : w2.cell? ⟨w.heap.size + 1, 0, none⟩ = some (.int .u8 k1) := H2.out.b2.cell 0
  have p11 : w2.cell? ⟨w.heap.size + 1, 1, none⟩ = some (.int .i64 i1) := H2.out.b2.cell 1
  have p12 : w2.cell? ⟨w.heap.size + 1, 2, none⟩ = some (.int .u64 r1) := H2.out.b2.cell 2
  have p13 : w2.cell? ⟨w.heap.size + 1, 3, none⟩ = some (.string t1) := H2.out.b2.cell 3
  have p20 : w2.cell? ⟨w.heap.size + 1 + 1, 0, none⟩ = some (.int .u8 k2) := H2.out.b3.cell 0
  have p21 : w2.cell? ⟨w.heap.size + 1 + 1, 1, none⟩ = some (.int .i64 i2) := H2.out.b3.cell 1
  have p22 : w2.cell? ⟨w.heap.size + 1 + 1, 2, none⟩ = some (.int .u64 r2) := H2.out.b3.cell 2
  have p23 : w2.cell? ⟨w.heap.size + 1 + 1, 3, none⟩ = some (.string t2) := H2.out.b3.cell 3
  go_wp2_with fail
  refine (K3.out _ H2.out.tabs).mono ?_
  rintro e w3 ⟨rfl, hb⟩
  have H3 := box (H2.out.later hb)
  clear hb p00 p01 p02 p03 p10 p11 p12 p13 p20 p21 p22 p23
  go_wp2_with fail
  refine (R1.out _ H3.out.v1 H3.out.tabs).mono ?_
  rintro e w4 ⟨rfl, hb⟩
  have H4 := box (H3.out.later hb)
  clear hb
  go_wp2_with fail
  refine (R2.out _ H4.out.v2 H4.out.tabs).mono ?_
  rintro e w5 ⟨rfl, hb⟩
  have H5 := box (H4.out.later hb)
  clear hb
  go_wp2_with fail
  refine (R3.out _ H5.out.v3 H5.out.tabs).mono ?_
  rintro e w6 ⟨rfl, hb⟩
  have H6 := box (H5.out.later hb)
  clear hb
  have p00 : w6.cell? ⟨w.heap.size, 0, none⟩ = some (.int .u8 kk) := H6.out.b1.cell 0
  have p01 : w6.cell? ⟨w.heap.size, 1, none⟩ = some (.int .i64 ii) := H6.out.b1.cell 1
  have p02 : w6.cell? ⟨w.heap.size, 2, none⟩ = some (.int .u64 rr) := H6.out.b1.cell 2
  have p03 : w6.cell? ⟨w.heap.size, 3, none⟩ = some (.string tt) := H6.out.b1.cell 3
  have p10 : w6.cell? ⟨w.heap.size + 1, 0, none⟩ = some (.int .u8 k1) := H6.out.b2.cell 0
  have p11 : w6.cell? ⟨w.heap.size + 1, 1, none⟩ = some (.int .i64 i1) := H6.out.b2.cell 1
  have p12 : w6.cell? ⟨w.heap.size + 1, 2, none⟩ = some (.int .u64 r1) := H6.out.b2.cell 2
  have p13 : w6.cell? ⟨w.heap.size + 1, 3, none⟩ = some (.string t1) := H6.out.b2.cell 3
  have p20 : w6.cell? ⟨w.heap.size + 1 + 1, 0, none⟩ = some (.int .u8 k2) := H6.out.b3.cell 0
  have p21 : w6.cell? ⟨w.heap.size + 1 + 1, 1, none⟩ = some (.int .i64 i2) := H6.out.b3.cell 1
  have p22 : w6.cell? ⟨w.heap.size + 1 + 1, 2, none⟩ = some (.int .u64 r2) := H6.out.b3.cell 2
  have p23 : w6.cell? ⟨w.heap.size + 1 + 1, 3, none⟩ = some (.string t2) := H6.out.b3.cell 3
  go_wp2_with fail
  refine (L12.out _).mono ?_
  rintro e w7 ⟨rfl, hb⟩
  have H7 := box (H6.out.later hb)
  clear hb p00 p01 p02 p03 p10 p11 p12 p13 p20 p21 p22 p23
  have p00 : w7.cell? ⟨w.heap.size, 0, none⟩ = some (.int .u8 kk) := H7.out.b1.cell 0
  have p01 : w7.cell? ⟨w.heap.size, 1, none⟩ = some (.int .i64 ii) := H7.out.b1.cell 1
  have p02 : w7.cell? ⟨w.heap.size, 2, none⟩ = some (.int .u64 rr) := H7.out.b1.cell 2
  have p03 : w7.cell? ⟨w.heap.size, 3, none⟩ = some (.string tt) := H7.out.b1.cell 3
  have p10 : w7.cell? ⟨w.heap.size + 1, 0, none⟩ = some (.int .u8 k1) := H7.out.b2.cell 0
  have p11 : w7.cell? ⟨w.heap.size + 1, 1, none⟩ = some (.int .i64 i1) := H7.out.b2.cell 1
  have p12 : w7.cell? ⟨w.heap.size + 1, 2, none⟩ = some (.int .u64 r1) := H7.out.b2.cell 2
  have p13 : w7.cell? ⟨w.heap.size + 1, 3, none⟩ = some (.string t1) := H7.out.b2.cell 3
  have p20 : w7.cell? ⟨w.heap.size + 1 + 1, 0, none⟩ = some (.int .u8 k2) := H7.out.b3.cell 0
  have p21 : w7.cell? ⟨w.heap.size + 1 + 1, 1, none⟩ = some (.int .i64 i2) := H7.out.b3.cell 1
  have p22 : w7.cell? ⟨w.heap.size + 1 + 1, 2, none⟩ = some (.int .u64 r2) := H7.out.b3.cell 2
  have p23 : w7.cell? ⟨w.heap.size + 1 + 1, 3, none⟩ = some (.string t2) := H7.out.b3.cell 3
  go_wp2_with fail
  refine (L21.out _).mono ?_
  rintro e w8 ⟨rfl, hb⟩
  have H8 := box (H7.out.later hb)
  clear hb p00 p01 p02 p03 p10 p11 p12 p13 p20 p21 p22 p23
  have p00 : w8.cell? ⟨w.heap.size, 0, none⟩ = some (.int .u8 kk) := H8.out.b1.cell 0
  have p01 : w8.cell? ⟨w.heap.size, 1, none⟩ = some (.int .i64 ii) := H8.out.b1.cell 1
  have p02 : w8.cell? ⟨w.heap.size, 2, none⟩ = some (.int .u64 rr) := H8.out.b1.cell 2
  have p03 : w8.cell? ⟨w.heap.size, 3, none⟩ = some (.string tt) := H8.out.b1.cell 3
  have p10 : w8.cell? ⟨w.heap.size + 1, 0, none⟩ = some (.int .u8 k1) := H8.out.b2.cell 0
  have p11 : w8.cell? ⟨w.heap.size + 1, 1, none⟩ = some (.int .i64 i1) := H8.out.b2.cell 1
  have p12 : w8.cell? ⟨w.heap.size + 1, 2, none⟩ = some (.int .u64 r1) := H8.out.b2.cell 2
  have p13 : w8.cell? ⟨w.heap.size + 1, 3, none⟩ = some (.string t1) := H8.out.b2.cell 3
  have p20 : w8.cell? ⟨w.heap.size + 1 + 1, 0, none⟩ = some (.int .u8 k2) := H8.out.b3.cell 0
  have p21 : w8.cell? ⟨w.heap.size + 1 + 1, 1, none⟩ = some (.int .i64 i2) := H8.out.b3.cell 1
  have p22 : w8.cell? ⟨w.heap.size + 1 + 1, 2, none⟩ = some (.int .u64 r2) := H8.out.b3.cell 2
  have p23 : w8.cell? ⟨w.heap.size + 1 + 1, 3, none⟩ = some (.string t2) := H8.out.b3.cell 3
  go_wp2_with fail
  refine (L12.out _).mono ?_
  rintro e w9 ⟨rfl, hb⟩
  have H9 := box (H8.out.later hb)
  clear hb p00 p01 p02 p03 p10 p11 p12 p13 p20 p21 p22 p23
  have p00 : w9.cell? ⟨w.heap.size, 0, none⟩ = some (.int .u8 kk) := H9.out.b1.cell 0
  have p01 : w9.cell? ⟨w.heap.size, 1, none⟩ = some (.int .i64 ii) := H9.out.b1.cell 1
  have p02 : w9.cell? ⟨w.heap.size, 2, none⟩ = some (.int .u64 rr) := H9.out.b1.cell 2
  have p03 : w9.cell? ⟨w.heap.size, 3, none⟩ = some (.string tt) := H9.out.b1.cell 3
  have p10 : w9.cell? ⟨w.heap.size + 1, 0, none⟩ = some (.int .u8 k1) := H9.out.b2.cell 0
  have p11 : w9.cell? ⟨w.heap.size + 1, 1, none⟩ = some (.int .i64 i1) := H9.out.b2.cell 1
  have p12 : w9.cell? ⟨w.heap.size + 1, 2, none⟩ = some (.int .u64 r1) := H9.out.b2.cell 2
  have p13 : w9.cell? ⟨w.heap.size + 1, 3, none⟩ = some (.string t1) := H9.out.b2.cell 3
  have p20 : w9.cell? ⟨w.heap.size + 1 + 1, 0, none⟩ = some (.int .u8 k2) := H9.out.b3.cell 0
  have p21 : w9.cell? ⟨w.heap.size + 1 + 1, 1, none⟩ = some (.int .i64 i2) := H9.out.b3.cell 1
  have p22 : w9.cell? ⟨w.heap.size + 1 + 1, 2, none⟩ = some (.int .u64 r2) := H9.out.b3.cell 2
  have p23 : w9.cell? ⟨w.heap.size + 1 + 1, 3, none⟩ = some (.string t2) := H9.out.b3.cell 3
  go_wp2_with fail
  refine (P12.out _ H9.out.v1 H9.out.v2).mono ?_
  rintro e w10 ⟨rfl, hb⟩
  have H10 := box (H9.out.later hb)
  clear hb p00 p01 p02 p03 p10 p11 p12 p13 p20 p21 p22 p23
  go_wp2_with fail
  refine (P21.out _ H10.out.v2 H10.out.v1).mono ?_
  rintro e w11 ⟨rfl, hb⟩
  have H11 := box (H10.out.later hb)
  clear hb
  go_wp2_with fail
  refine (S12.out _ H11.out.v1 H11.out.v2).mono ?_
  rintro e w12 ⟨rfl, hb⟩
  have H12 := box (H11.out.later hb)
  clear hb
  go_wp2_with fail
  refine (P12.out _ H12.out.v1 H12.out.v2).mono ?_
  rintro e w13 ⟨rfl, hb⟩
  have H13 := box (H12.out.later hb)
  clear hb
  go_wp2_with fail
  refine (alive04 _ H13.out.tabs).mono ?_
  rintro e w14 ⟨rfl, hb⟩
  have H14 := box (H13.out.later hb)
  clear hb
  go_wp2_with fail
  go_ret
  exact ⟨rfl, H14.out.below⟩

set_option maxHeartbeats 8000000 in
theorem line_main_da (kk k1 k2 : Nat) (ii i1 i2 : Int) (rr r1 r2 : Nat) (tt t1 t2 : ByteArray) (a b c : Option Addr) (n m o ca cb cc : Nat) (l k j : List Val) (w : World) (hT : Tabs w) (hv1 : Vals w a n l) (hv2 : Vals w b m k) (hv3 : Vals w c o j)
    (K1 : Box (∀ W, Tabs W → Calls Tryd.prog 14 #[.agg #[.int .u8 kk, .int .i64 ii, .int .u64 rr, .string tt]] W fun e w' => e = .returned (.int .i64 0) ∧ Below W.heap.size W w')) (K2 : Box (∀ W, Tabs W → Calls Tryd.prog 14 #[.agg #[.int .u8 k1, .int .i64 i1, .int .u64 r1, .string t1]] W fun e w' => e = .returned (.int .i64 0) ∧ Below W.heap.size W w')) (K3 : Box (∀ W, Tabs W → Calls Tryd.prog 14 #[.agg #[.int .u8 k2, .int .i64 i2, .int .u64 r2, .string t2]] W fun e w' => e = .returned (.int .i64 0) ∧ Below W.heap.size W w')) (R1 : Box (∀ W, Vals W a n l → Tabs W → Calls Tryd.prog 16 #[.slice a n ca] W fun e w' => e = .returned (.int .i64 0) ∧ Below W.heap.size W w')) (R2 : Box (∀ W, Vals W b m k → Tabs W → Calls Tryd.prog 16 #[.slice b m cb] W fun e w' => e = .returned (.int .i64 0) ∧ Below W.heap.size W w')) (R3 : Box (∀ W, Vals W c o j → Tabs W → Calls Tryd.prog 16 #[.slice c o cc] W fun e w' => e = .returned (.int .i64 0) ∧ Below W.heap.size W w'))
    (L12 : Box (∀ W, Calls Tryd.prog 28 #[.agg #[.int .u8 kk, .int .i64 ii, .int .u64 rr, .string tt], .agg #[.int .u8 k1, .int .i64 i1, .int .u64 r1, .string t1]] W fun e w' => e = .returned (.bool false) ∧ Below W.heap.size W w')) (L21 : Box (∀ W, Calls Tryd.prog 28 #[.agg #[.int .u8 k1, .int .i64 i1, .int .u64 r1, .string t1], .agg #[.int .u8 kk, .int .i64 ii, .int .u64 rr, .string tt]] W fun e w' => e = .returned (.bool false) ∧ Below W.heap.size W w')) (EQ : ∀ w, (Op.equalIn 10000 24 (.agg #[.int .u8 kk, .int .i64 ii, .int .u64 rr, .string tt]) (.agg #[.int .u8 k1, .int .i64 i1, .int .u64 r1, .string t1])).run Tryd.prog w = .ok true w)
    (P12 : Box (∀ W, Vals W a n l → Vals W b m k → Calls Tryd.prog 30 #[.slice a n ca, .slice b m cb] W fun e w' => e = .returned (.bool true) ∧ Below W.heap.size W w')) (P21 : Box (∀ W, Vals W b m k → Vals W a n l → Calls Tryd.prog 30 #[.slice b m cb, .slice a n ca] W fun e w' => e = .returned (.bool false) ∧ Below W.heap.size W w')) (S12 : Box (∀ W, Vals W a n l → Vals W b m k → Calls Tryd.prog 31 #[.slice a n ca, .slice b m cb] W fun e w' => e = .returned (.bool false) ∧ Below W.heap.size W w')) (P23 : Box (∀ W, Vals W b m k → Vals W c o j → Calls Tryd.prog 30 #[.slice b m cb, .slice c o cc] W fun e w' => e = .returned (.bool false) ∧ Below W.heap.size W w')) :
    Calls Tryd.prog 6 #[.agg #[.int .u8 kk, .int .i64 ii, .int .u64 rr, .string tt], .agg #[.int .u8 k1, .int .i64 i1, .int .u64 r1, .string t1], .agg #[.int .u8 k2, .int .i64 i2, .int .u64 r2, .string t2], .slice a n ca, .slice b m cb, .slice c o cc] w fun e w' => e = .returned (.bool true) ∧ Below w.heap.size w w' := by
  have HT := box hT
  have V1 := box hv1
  have V2 := box hv2
  have V3 := box hv3
  clear hT hv1 hv2 hv3
  go_enter Tryd.func6, Tryd.ntmps6
  go_wp2_with fail
  obtain ⟨W, hW, hb, P, Q, R⟩ := three_boxes w #[.int .u8 kk, .int .i64 ii, .int .u64 rr, .string tt] #[.int .u8 k1, .int .i64 i1, .int .u64 r1, .string t1] #[.int .u8 k2, .int .i64 i2, .int .u64 r2, .string t2]
  have H0 : Box (Here w W ⟨kk, ii, rr, tt⟩ ⟨k1, i1, r1, t1⟩ ⟨k2, i2, r2, t2⟩ a b c n m o l k j) := box ⟨hb, HT.out.below hb, P, Q, R, vals_below V1.out hb, vals_below V2.out hb, vals_below V3.out hb⟩
  rw [hW]
  clear hW hb P Q R
  refine (K1.out _ H0.out.tabs).mono ?_
  rintro e w1 ⟨rfl, hb⟩
  have H1 := box (H0.out.later hb)
  clear hb
  have p00 : w1.cell? ⟨w.heap.size, 0, none⟩ = some (.int .u8 kk) := H1.out.b1.cell 0
  have p01 : w1.cell? ⟨w.heap.size, 1, none⟩ = some (.int .i64 ii) := H1.out.b1.cell 1
  have p02 : w1.cell? ⟨w.heap.size, 2, none⟩ = some (.int .u64 rr) := H1.out.b1.cell 2
  have p03 : w1.cell? ⟨w.heap.size, 3, none⟩ = some (.string tt) := H1.out.b1.cell 3
  have p10 : w1.cell? ⟨w.heap.size + 1, 0, none⟩ = some (.int .u8 k1) := H1.out.b2.cell 0
  have p11 : w1.cell? ⟨w.heap.size + 1, 1, none⟩ = some (.int .i64 i1) := H1.out.b2.cell 1
  have p12 : w1.cell? ⟨w.heap.size + 1, 2, none⟩ = some (.int .u64 r1) := H1.out.b2.cell 2
  have p13 : w1.cell? ⟨w.heap.size + 1, 3, none⟩ = some (.string t1) := H1.out.b2.cell 3
  have p20 : w1.cell? ⟨w.heap.size + 1 + 1, 0, none⟩ = some (.int .u8 k2) := H1.out.b3.cell 0
  have p21 : w1.cell? ⟨w.heap.size + 1 + 1, 1, none⟩ = some (.int .i64 i2) := H1.out.b3.cell 1
  have p22 : w1.cell? ⟨w.heap.size + 1 + 1, 2, none⟩ = some (.int .u64 r2) := H1.out.b3.cell 2
  have p23 : w1.cell? ⟨w.heap.size + 1 + 1, 3, none⟩ = some (.string t2) := H1.out.b3.cell 3
  go_wp2_with fail
  refine (K2.out _ H1.out.tabs).mono ?_
  rintro e w2 ⟨rfl, hb⟩
  have H2 := box (H1.out.later hb)
  clear hb p00 p01 p02 p03 p10 p11 p12 p13 p20 p21 p22 p23
  have p00 : w2.cell? ⟨w.heap.size, 0, none⟩ = some (.int .u8 kk) := H2.out.b1.cell 0
  have p01 : w2.cell? ⟨w.heap.size, 1, none⟩ = some (.int .i64 ii) := H2.out.b1.cell 1
  have p02 : w2.cell? ⟨w.heap.size, 2, none⟩ = some (.int .u64 rr) := H2.out.b1.cell 2
  have p03 : w2.cell? ⟨w.heap.size, 3, none⟩ = some (.string tt) := H2.out.b1.cell 3
  have p10 : w2.cell? ⟨w.heap.size + 1, 0, none⟩ = some (.int .u8 k1) := H2.out.b2.cell 0
  have p11 : w2.cell? ⟨w.heap.size + 1, 1, none⟩ = some (.int .i64 i1) := H2.out.b2.cell 1
  have p12 : w2.cell? ⟨w.heap.size + 1, 2, none⟩ = some (.int .u64 r1) := H2.out.b2.cell 2
  have p13 : w2.cell? ⟨w.heap.size + 1, 3, none⟩ = some (.string t1) := H2.out.b2.cell 3
  have p20 : w2.cell? ⟨w.heap.size + 1 + 1, 0, none⟩ = some (.int .u8 k2) := H2.out.b3.cell 0
  have p21 : w2.cell? ⟨w.heap.size + 1 + 1, 1, none⟩ = some (.int .i64 i2) := H2.out.b3.cell 1
  have p22 : w2.cell? ⟨w.heap.size + 1 + 1, 2, none⟩ = some (.int .u64 r2) := H2.out.b3.cell 2
  have p23 : w2.cell? ⟨w.heap.size + 1 + 1, 3, none⟩ = some (.string t2) := H2.out.b3.cell 3
  go_wp2_with fail
  refine (K3.out _ H2.out.tabs).mono ?_
  rintro e w3 ⟨rfl, hb⟩
  have H3 := box (H2.out.later hb)
  clear hb p00 p01 p02 p03 p10 p11 p12 p13 p20 p21 p22 p23
  go_wp2_with fail
  refine (R1.out _ H3.out.v1 H3.out.tabs).mono ?_
  rintro e w4 ⟨rfl, hb⟩
  have H4 := box (H3.out.later hb)
  clear hb
  go_wp2_with fail
  refine (R2.out _ H4.out.v2 H4.out.tabs).mono ?_
  rintro e w5 ⟨rfl, hb⟩
  have H5 := box (H4.out.later hb)
  clear hb
  go_wp2_with fail
  refine (R3.out _ H5.out.v3 H5.out.tabs).mono ?_
  rintro e w6 ⟨rfl, hb⟩
  have H6 := box (H5.out.later hb)
  clear hb
  have p00 : w6.cell? ⟨w.heap.size, 0, none⟩ = some (.int .u8 kk) := H6.out.b1.cell 0
  have p01 : w6.cell? ⟨w.heap.size, 1, none⟩ = some (.int .i64 ii) := H6.out.b1.cell 1
  have p02 : w6.cell? ⟨w.heap.size, 2, none⟩ = some (.int .u64 rr) := H6.out.b1.cell 2
  have p03 : w6.cell? ⟨w.heap.size, 3, none⟩ = some (.string tt) := H6.out.b1.cell 3
  have p10 : w6.cell? ⟨w.heap.size + 1, 0, none⟩ = some (.int .u8 k1) := H6.out.b2.cell 0
  have p11 : w6.cell? ⟨w.heap.size + 1, 1, none⟩ = some (.int .i64 i1) := H6.out.b2.cell 1
  have p12 : w6.cell? ⟨w.heap.size + 1, 2, none⟩ = some (.int .u64 r1) := H6.out.b2.cell 2
  have p13 : w6.cell? ⟨w.heap.size + 1, 3, none⟩ = some (.string t1) := H6.out.b2.cell 3
  have p20 : w6.cell? ⟨w.heap.size + 1 + 1, 0, none⟩ = some (.int .u8 k2) := H6.out.b3.cell 0
  have p21 : w6.cell? ⟨w.heap.size + 1 + 1, 1, none⟩ = some (.int .i64 i2) := H6.out.b3.cell 1
  have p22 : w6.cell? ⟨w.heap.size + 1 + 1, 2, none⟩ = some (.int .u64 r2) := H6.out.b3.cell 2
  have p23 : w6.cell? ⟨w.heap.size + 1 + 1, 3, none⟩ = some (.string t2) := H6.out.b3.cell 3
  go_wp2_with fail
  refine (L12.out _).mono ?_
  rintro e w7 ⟨rfl, hb⟩
  have H7 := box (H6.out.later hb)
  clear hb p00 p01 p02 p03 p10 p11 p12 p13 p20 p21 p22 p23
  have p00 : w7.cell? ⟨w.heap.size, 0, none⟩ = some (.int .u8 kk) := H7.out.b1.cell 0
  have p01 : w7.cell? ⟨w.heap.size, 1, none⟩ = some (.int .i64 ii) := H7.out.b1.cell 1
  have p02 : w7.cell? ⟨w.heap.size, 2, none⟩ = some (.int .u64 rr) := H7.out.b1.cell 2
  have p03 : w7.cell? ⟨w.heap.size, 3, none⟩ = some (.string tt) := H7.out.b1.cell 3
  have p10 : w7.cell? ⟨w.heap.size + 1, 0, none⟩ = some (.int .u8 k1) := H7.out.b2.cell 0
  have p11 : w7.cell? ⟨w.heap.size + 1, 1, none⟩ = some (.int .i64 i1) := H7.out.b2.cell 1
  have p12 : w7.cell? ⟨w.heap.size + 1, 2, none⟩ = some (.int .u64 r1) := H7.out.b2.cell 2
  have p13 : w7.cell? ⟨w.heap.size + 1, 3, none⟩ = some (.string t1) := H7.out.b2.cell 3
  have p20 : w7.cell? ⟨w.heap.size + 1 + 1, 0, none⟩ = some (.int .u8 k2) := H7.out.b3.cell 0
  have p21 : w7.cell? ⟨w.heap.size + 1 + 1, 1, none⟩ = some (.int .i64 i2) := H7.out.b3.cell 1
  have p22 : w7.cell? ⟨w.heap.size + 1 + 1, 2, none⟩ = some (.int .u64 r2) := H7.out.b3.cell 2
  have p23 : w7.cell? ⟨w.heap.size + 1 + 1, 3, none⟩ = some (.string t2) := H7.out.b3.cell 3
  go_wp2_with fail
  refine (L21.out _).mono ?_
  rintro e w8 ⟨rfl, hb⟩
  have H8 := box (H7.out.later hb)
  clear hb p00 p01 p02 p03 p10 p11 p12 p13 p20 p21 p22 p23
  have p00 : w8.cell? ⟨w.heap.size, 0, none⟩ = some (.int .u8 kk) := H8.out.b1.cell 0
  have p01 : w8.cell? ⟨w.heap.size, 1, none⟩ = some (.int .i64 ii) := H8.out.b1.cell 1
  have p02 : w8.cell? ⟨w.heap.size, 2, none⟩ = some (.int .u64 rr) := H8.out.b1.cell 2
  have p03 : w8.cell? ⟨w.heap.size, 3, none⟩ = some (.string tt) := H8.out.b1.cell 3
  have p10 : w8.cell? ⟨w.heap.size + 1, 0, none⟩ = some (.int .u8 k1) := H8.out.b2.cell 0
  have p11 : w8.cell? ⟨w.heap.size + 1, 1, none⟩ = some (.int .i64 i1) := H8.out.b2.cell 1
  have p12 : w8.cell? ⟨w.heap.size + 1, 2, none⟩ = some (.int .u64 r1) := H8.out.b2.cell 2
  have p13 : w8.cell? ⟨w.heap.size + 1, 3, none⟩ = some (.string t1) := H8.out.b2.cell 3
  have p20 : w8.cell? ⟨w.heap.size + 1 + 1, 0, none⟩ = some (.int .u8 k2) := H8.out.b3.cell 0
  have p21 : w8.cell? ⟨w.heap.size + 1 + 1, 1, none⟩ = some (.int .i64 i2) := H8.out.b3.cell 1
  have p22 : w8.cell? ⟨w.heap.size + 1 + 1, 2, none⟩ = some (.int .u64 r2) := H8.out.b3.cell 2
  have p23 : w8.cell? ⟨w.heap.size + 1 + 1, 3, none⟩ = some (.string t2) := H8.out.b3.cell 3
  go_wp2_with fail
  refine (L12.out _).mono ?_
  rintro e w9 ⟨rfl, hb⟩
  have H9 := box (H8.out.later hb)
  clear hb p00 p01 p02 p03 p10 p11 p12 p13 p20 p21 p22 p23
  have p00 : w9.cell? ⟨w.heap.size, 0, none⟩ = some (.int .u8 kk) := H9.out.b1.cell 0
  have p01 : w9.cell? ⟨w.heap.size, 1, none⟩ = some (.int .i64 ii) := H9.out.b1.cell 1
  have p02 : w9.cell? ⟨w.heap.size, 2, none⟩ = some (.int .u64 rr) := H9.out.b1.cell 2
  have p03 : w9.cell? ⟨w.heap.size, 3, none⟩ = some (.string tt) := H9.out.b1.cell 3
  have p10 : w9.cell? ⟨w.heap.size + 1, 0, none⟩ = some (.int .u8 k1) := H9.out.b2.cell 0
  have p11 : w9.cell? ⟨w.heap.size + 1, 1, none⟩ = some (.int .i64 i1) := H9.out.b2.cell 1
  have p12 : w9.cell? ⟨w.heap.size + 1, 2, none⟩ = some (.int .u64 r1) := H9.out.b2.cell 2
  have p13 : w9.cell? ⟨w.heap.size + 1, 3, none⟩ = some (.string t1) := H9.out.b2.cell 3
  have p20 : w9.cell? ⟨w.heap.size + 1 + 1, 0, none⟩ = some (.int .u8 k2) := H9.out.b3.cell 0
  have p21 : w9.cell? ⟨w.heap.size + 1 + 1, 1, none⟩ = some (.int .i64 i2) := H9.out.b3.cell 1
  have p22 : w9.cell? ⟨w.heap.size + 1 + 1, 2, none⟩ = some (.int .u64 r2) := H9.out.b3.cell 2
  have p23 : w9.cell? ⟨w.heap.size + 1 + 1, 3, none⟩ = some (.string t2) := H9.out.b3.cell 3
  go_wp2_with fail
  refine (P12.out _ H9.out.v1 H9.out.v2).mono ?_
  rintro e w10 ⟨rfl, hb⟩
  have H10 := box (H9.out.later hb)
  clear hb p00 p01 p02 p03 p10 p11 p12 p13 p20 p21 p22 p23
  go_wp2_with fail
  refine (P21.out _ H10.out.v2 H10.out.v1).mono ?_
  rintro e w11 ⟨rfl, hb⟩
  have H11 := box (H10.out.later hb)
  clear hb
  go_wp2_with fail
  refine (S12.out _ H11.out.v1 H11.out.v2).mono ?_
  rintro e w12 ⟨rfl, hb⟩
  have H12 := box (H11.out.later hb)
  clear hb
  go_wp2_with fail
  refine (P12.out _ H12.out.v1 H12.out.v2).mono ?_
  rintro e w13 ⟨rfl, hb⟩
  have H13 := box (H12.out.later hb)
  clear hb
  go_wp2_with fail
  refine (P23.out _ H13.out.v2 H13.out.v3).mono ?_
  rintro e w14 ⟨rfl, hb⟩
  have H14 := box (H13.out.later hb)
  clear hb
  go_wp2_with fail
  refine (alive04 _ H14.out.tabs).mono ?_
  rintro e w15 ⟨rfl, hb⟩
  have H15 := box (H14.out.later hb)
  clear hb
  go_wp2_with fail
  go_ret
  exact ⟨rfl, H15.out.below⟩

set_option maxHeartbeats 8000000 in
theorem line_main_db (kk k1 k2 : Nat) (ii i1 i2 : Int) (rr r1 r2 : Nat) (tt t1 t2 : ByteArray) (a b c : Option Addr) (n m o ca cb cc : Nat) (l k j : List Val) (w : World) (hT : Tabs w) (hv1 : Vals w a n l) (hv2 : Vals w b m k) (hv3 : Vals w c o j)
    (K1 : Box (∀ W, Tabs W → Calls Tryd.prog 14 #[.agg #[.int .u8 kk, .int .i64 ii, .int .u64 rr, .string tt]] W fun e w' => e = .returned (.int .i64 0) ∧ Below W.heap.size W w')) (K2 : Box (∀ W, Tabs W → Calls Tryd.prog 14 #[.agg #[.int .u8 k1, .int .i64 i1, .int .u64 r1, .string t1]] W fun e w' => e = .returned (.int .i64 0) ∧ Below W.heap.size W w')) (K3 : Box (∀ W, Tabs W → Calls Tryd.prog 14 #[.agg #[.int .u8 k2, .int .i64 i2, .int .u64 r2, .string t2]] W fun e w' => e = .returned (.int .i64 0) ∧ Below W.heap.size W w')) (R1 : Box (∀ W, Vals W a n l → Tabs W → Calls Tryd.prog 16 #[.slice a n ca] W fun e w' => e = .returned (.int .i64 0) ∧ Below W.heap.size W w')) (R2 : Box (∀ W, Vals W b m k → Tabs W → Calls Tryd.prog 16 #[.slice b m cb] W fun e w' => e = .returned (.int .i64 0) ∧ Below W.heap.size W w')) (R3 : Box (∀ W, Vals W c o j → Tabs W → Calls Tryd.prog 16 #[.slice c o cc] W fun e w' => e = .returned (.int .i64 0) ∧ Below W.heap.size W w'))
    (L12 : Box (∀ W, Calls Tryd.prog 28 #[.agg #[.int .u8 kk, .int .i64 ii, .int .u64 rr, .string tt], .agg #[.int .u8 k1, .int .i64 i1, .int .u64 r1, .string t1]] W fun e w' => e = .returned (.bool false) ∧ Below W.heap.size W w')) (L21 : Box (∀ W, Calls Tryd.prog 28 #[.agg #[.int .u8 k1, .int .i64 i1, .int .u64 r1, .string t1], .agg #[.int .u8 kk, .int .i64 ii, .int .u64 rr, .string tt]] W fun e w' => e = .returned (.bool false) ∧ Below W.heap.size W w')) (EQ : ∀ w, (Op.equalIn 10000 24 (.agg #[.int .u8 kk, .int .i64 ii, .int .u64 rr, .string tt]) (.agg #[.int .u8 k1, .int .i64 i1, .int .u64 r1, .string t1])).run Tryd.prog w = .ok true w)
    (P12 : Box (∀ W, Vals W a n l → Vals W b m k → Calls Tryd.prog 30 #[.slice a n ca, .slice b m cb] W fun e w' => e = .returned (.bool true) ∧ Below W.heap.size W w')) (P21 : Box (∀ W, Vals W b m k → Vals W a n l → Calls Tryd.prog 30 #[.slice b m cb, .slice a n ca] W fun e w' => e = .returned (.bool false) ∧ Below W.heap.size W w')) (S12 : Box (∀ W, Vals W a n l → Vals W b m k → Calls Tryd.prog 31 #[.slice a n ca, .slice b m cb] W fun e w' => e = .returned (.bool false) ∧ Below W.heap.size W w')) (P23 : Box (∀ W, Vals W b m k → Vals W c o j → Calls Tryd.prog 30 #[.slice b m cb, .slice c o cc] W fun e w' => e = .returned (.bool true) ∧ Below W.heap.size W w')) (P13 : Box (∀ W, Vals W a n l → Vals W c o j → Calls Tryd.prog 30 #[.slice a n ca, .slice c o cc] W fun e w' => e = .returned (.bool true) ∧ Below W.heap.size W w')) :
    Calls Tryd.prog 6 #[.agg #[.int .u8 kk, .int .i64 ii, .int .u64 rr, .string tt], .agg #[.int .u8 k1, .int .i64 i1, .int .u64 r1, .string t1], .agg #[.int .u8 k2, .int .i64 i2, .int .u64 r2, .string t2], .slice a n ca, .slice b m cb, .slice c o cc] w fun e w' => e = .returned (.bool true) ∧ Below w.heap.size w w' := by
  have HT := box hT
  have V1 := box hv1
  have V2 := box hv2
  have V3 := box hv3
  clear hT hv1 hv2 hv3
  go_enter Tryd.func6, Tryd.ntmps6
  go_wp2_with fail
  obtain ⟨W, hW, hb, P, Q, R⟩ := three_boxes w #[.int .u8 kk, .int .i64 ii, .int .u64 rr, .string tt] #[.int .u8 k1, .int .i64 i1, .int .u64 r1, .string t1] #[.int .u8 k2, .int .i64 i2, .int .u64 r2, .string t2]
  have H0 : Box (Here w W ⟨kk, ii, rr, tt⟩ ⟨k1, i1, r1, t1⟩ ⟨k2, i2, r2, t2⟩ a b c n m o l k j) := box ⟨hb, HT.out.below hb, P, Q, R, vals_below V1.out hb, vals_below V2.out hb, vals_below V3.out hb⟩
  rw [hW]
  clear hW hb P Q R
  refine (K1.out _ H0.out.tabs).mono ?_
  rintro e w1 ⟨rfl, hb⟩
  have H1 := box (H0.out.later hb)
  clear hb
  have p00 : w1.cell? ⟨w.heap.size, 0, none⟩ = some (.int .u8 kk) := H1.out.b1.cell 0
  have p01 : w1.cell? ⟨w.heap.size, 1, none⟩ = some (.int .i64 ii) := H1.out.b1.cell 1
  have p02 : w1.cell? ⟨w.heap.size, 2, none⟩ = some (.int .u64 rr) := H1.out.b1.cell 2
  have p03 : w1.cell? ⟨w.heap.size, 3, none⟩ = some (.string tt) := H1.out.b1.cell 3
  have p10 : w1.cell? ⟨w.heap.size + 1, 0, none⟩ = some (.int .u8 k1) := H1.out.b2.cell 0
  have p11 : w1.cell? ⟨w.heap.size + 1, 1, none⟩ = some (.int .i64 i1) := H1.out.b2.cell 1
  have p12 : w1.cell? ⟨w.heap.size + 1, 2, none⟩ = some (.int .u64 r1) := H1.out.b2.cell 2
  have p13 : w1.cell? ⟨w.heap.size + 1, 3, none⟩ = some (.string t1) := H1.out.b2.cell 3
  have p20 : w1.cell? ⟨w.heap.size + 1 + 1, 0, none⟩ = some (.int .u8 k2) := H1.out.b3.cell 0
  have p21 : w1.cell? ⟨w.heap.size + 1 + 1, 1, none⟩ = some (.int .i64 i2) := H1.out.b3.cell 1
  have p22 : w1.cell? ⟨w.heap.size + 1 + 1, 2, none⟩ = some (.int .u64 r2) := H1.out.b3.cell 2
  have p23 : w1.cell? ⟨w.heap.size + 1 + 1, 3, none⟩ = some (.string t2) := H1.out.b3.cell 3
  go_wp2_with fail
  refine (K2.out _ H1.out.tabs).mono ?_
  rintro e w2 ⟨rfl, hb⟩
  have H2 := box (H1.out.later hb)
  clear hb p00 p01 p02 p03 p10 p11 p12 p13 p20 p21 p22 p23
  have p00 : w2.cell? ⟨w.heap.size, 0, none⟩ = some (.int .u8 kk) := H2.out.b1.cell 0
  have p01 : w2.cell? ⟨w.heap.size, 1, none⟩ = some (.int .i64 ii) := H2.out.b1.cell 1
  have p02 : w2.cell? ⟨w.heap.size, 2, none⟩ = some (.int .u64 rr) := H2.out.b1.cell 2
  have p03 : w2.cell? ⟨w.heap.size, 3, none⟩ = some (.string tt) := H2.out.b1.cell 3
  have p10 : w2.cell? ⟨w.heap.size + 1, 0, none⟩ = some (.int .u8 k1) := H2.out.b2.cell 0
  have p11 : w2.cell? ⟨w.heap.size + 1, 1, none⟩ = some (.int .i64 i1) := H2.out.b2.cell 1
  have p12 : w2.cell? ⟨w.heap.size + 1, 2, none⟩ = some (.int .u64 r1) := H2.out.b2.cell 2
  have p13 : w2.cell? ⟨w.heap.size + 1, 3, none⟩ = some (.string t1) := H2.out.b2.cell 3
  have p20 : w2.cell? ⟨w.heap.size + 1 + 1, 0, none⟩ = some (.int .u8 k2) := H2.out.b3.cell 0
  have p21 : w2.cell? ⟨w.heap.size + 1 + 1, 1, none⟩ = some (.int .i64 i2) := H2.out.b3.cell 1
  have p22 : w2.cell? ⟨w.heap.size + 1 + 1, 2, none⟩ = some (.int .u64 r2) := H2.out.b3.cell 2
  have p23 : w2.cell? ⟨w.heap.size + 1 + 1, 3, none⟩ = some (.string t2) := H2.out.b3.cell 3
  go_wp2_with fail
  refine (K3.out _ H2.out.tabs).mono ?_
  rintro e w3 ⟨rfl, hb⟩
  have H3 := box (H2.out.later hb)
  clear hb p00 p01 p02 p03 p10 p11 p12 p13 p20 p21 p22 p23
  go_wp2_with fail
  refine (R1.out _ H3.out.v1 H3.out.tabs).mono ?_
  rintro e w4 ⟨rfl, hb⟩
  have H4 := box (H3.out.later hb)
  clear hb
  go_wp2_with fail
  refine (R2.out _ H4.out.v2 H4.out.tabs).mono ?_
  rintro e w5 ⟨rfl, hb⟩
  have H5 := box (H4.out.later hb)
  clear hb
  go_wp2_with fail
  refine (R3.out _ H5.out.v3 H5.out.tabs).mono ?_
  rintro e w6 ⟨rfl, hb⟩
  have H6 := box (H5.out.later hb)
  clear hb
  have p00 : w6.cell? ⟨w.heap.size, 0, none⟩ = some (.int .u8 kk) := H6.out.b1.cell 0
  have p01 : w6.cell? ⟨w.heap.size, 1, none⟩ = some (.int .i64 ii) := H6.out.b1.cell 1
  have p02 : w6.cell? ⟨w.heap.size, 2, none⟩ = some (.int .u64 rr) := H6.out.b1.cell 2
  have p03 : w6.cell? ⟨w.heap.size, 3, none⟩ = some (.string tt) := H6.out.b1.cell 3
  have p10 : w6.cell? ⟨w.heap.size + 1, 0, none⟩ = some (.int .u8 k1) := H6.out.b2.cell 0
  have p11 : w6.cell? ⟨w.heap.size + 1, 1, none⟩ = some (.int .i64 i1) := H6.out.b2.cell 1
  have p12 : w6.cell? ⟨w.heap.size + 1, 2, none⟩ = some (.int .u64 r1) := H6.out.b2.cell 2
  have p13 : w6.cell? ⟨w.heap.size + 1, 3, none⟩ = some (.string t1) := H6.out.b2.cell 3
  have p20 : w6.cell? ⟨w.heap.size + 1 + 1, 0, none⟩ = some (.int .u8 k2) := H6.out.b3.cell 0
  have p21 : w6.cell? ⟨w.heap.size + 1 + 1, 1, none⟩ = some (.int .i64 i2) := H6.out.b3.cell 1
  have p22 : w6.cell? ⟨w.heap.size + 1 + 1, 2, none⟩ = some (.int .u64 r2) := H6.out.b3.cell 2
  have p23 : w6.cell? ⟨w.heap.size + 1 + 1, 3, none⟩ = some (.string t2) := H6.out.b3.cell 3
  go_wp2_with fail
  refine (L12.out _).mono ?_
  rintro e w7 ⟨rfl, hb⟩
  have H7 := box (H6.out.later hb)
  clear hb p00 p01 p02 p03 p10 p11 p12 p13 p20 p21 p22 p23
  have p00 : w7.cell? ⟨w.heap.size, 0, none⟩ = some (.int .u8 kk) := H7.out.b1.cell 0
  have p01 : w7.cell? ⟨w.heap.size, 1, none⟩ = some (.int .i64 ii) := H7.out.b1.cell 1
  have p02 : w7.cell? ⟨w.heap.size, 2, none⟩ = some (.int .u64 rr) := H7.out.b1.cell 2
  have p03 : w7.cell? ⟨w.heap.size, 3, none⟩ = some (.string tt) := H7.out.b1.cell 3
  have p10 : w7.cell? ⟨w.heap.size + 1, 0, none⟩ = some (.int .u8 k1) := H7.out.b2.cell 0
  have p11 : w7.cell? ⟨w.heap.size + 1, 1, none⟩ = some (.int .i64 i1) := H7.out.b2.cell 1
  have p12 : w7.cell? ⟨w.heap.size + 1, 2, none⟩ = some (.int .u64 r1) := H7.out.b2.cell 2
  have p13 : w7.cell? ⟨w.heap.size + 1, 3, none⟩ = some (.string t1) := H7.out.b2.cell 3
  have p20 : w7.cell? ⟨w.heap.size + 1 + 1, 0, none⟩ = some (.int .u8 k2) := H7.out.b3.cell 0
  have p21 : w7.cell? ⟨w.heap.size + 1 + 1, 1, none⟩ = some (.int .i64 i2) := H7.out.b3.cell 1
  have p22 : w7.cell? ⟨w.heap.size + 1 + 1, 2, none⟩ = some (.int .u64 r2) := H7.out.b3.cell 2
  have p23 : w7.cell? ⟨w.heap.size + 1 + 1, 3, none⟩ = some (.string t2) := H7.out.b3.cell 3
  go_wp2_with fail
  refine (L21.out _).mono ?_
  rintro e w8 ⟨rfl, hb⟩
  have H8 := box (H7.out.later hb)
  clear hb p00 p01 p02 p03 p10 p11 p12 p13 p20 p21 p22 p23
  have p00 : w8.cell? ⟨w.heap.size, 0, none⟩ = some (.int .u8 kk) := H8.out.b1.cell 0
  have p01 : w8.cell? ⟨w.heap.size, 1, none⟩ = some (.int .i64 ii) := H8.out.b1.cell 1
  have p02 : w8.cell? ⟨w.heap.size, 2, none⟩ = some (.int .u64 rr) := H8.out.b1.cell 2
  have p03 : w8.cell? ⟨w.heap.size, 3, none⟩ = some (.string tt) := H8.out.b1.cell 3
  have p10 : w8.cell? ⟨w.heap.size + 1, 0, none⟩ = some (.int .u8 k1) := H8.out.b2.cell 0
  have p11 : w8.cell? ⟨w.heap.size + 1, 1, none⟩ = some (.int .i64 i1) := H8.out.b2.cell 1
  have p12 : w8.cell? ⟨w.heap.size + 1, 2, none⟩ = some (.int .u64 r1) := H8.out.b2.cell 2
  have p13 : w8.cell? ⟨w.heap.size + 1, 3, none⟩ = some (.string t1) := H8.out.b2.cell 3
  have p20 : w8.cell? ⟨w.heap.size + 1 + 1, 0, none⟩ = some (.int .u8 k2) := H8.out.b3.cell 0
  have p21 : w8.cell? ⟨w.heap.size + 1 + 1, 1, none⟩ = some (.int .i64 i2) := H8.out.b3.cell 1
  have p22 : w8.cell? ⟨w.heap.size + 1 + 1, 2, none⟩ = some (.int .u64 r2) := H8.out.b3.cell 2
  have p23 : w8.cell? ⟨w.heap.size + 1 + 1, 3, none⟩ = some (.string t2) := H8.out.b3.cell 3
  go_wp2_with fail
  refine (L12.out _).mono ?_
  rintro e w9 ⟨rfl, hb⟩
  have H9 := box (H8.out.later hb)
  clear hb p00 p01 p02 p03 p10 p11 p12 p13 p20 p21 p22 p23
  have p00 : w9.cell? ⟨w.heap.size, 0, none⟩ = some (.int .u8 kk) := H9.out.b1.cell 0
  have p01 : w9.cell? ⟨w.heap.size, 1, none⟩ = some (.int .i64 ii) := H9.out.b1.cell 1
  have p02 : w9.cell? ⟨w.heap.size, 2, none⟩ = some (.int .u64 rr) := H9.out.b1.cell 2
  have p03 : w9.cell? ⟨w.heap.size, 3, none⟩ = some (.string tt) := H9.out.b1.cell 3
  have p10 : w9.cell? ⟨w.heap.size + 1, 0, none⟩ = some (.int .u8 k1) := H9.out.b2.cell 0
  have p11 : w9.cell? ⟨w.heap.size + 1, 1, none⟩ = some (.int .i64 i1) := H9.out.b2.cell 1
  have p12 : w9.cell? ⟨w.heap.size + 1, 2, none⟩ = some (.int .u64 r1) := H9.out.b2.cell 2
  have p13 : w9.cell? ⟨w.heap.size + 1, 3, none⟩ = some (.string t1) := H9.out.b2.cell 3
  have p20 : w9.cell? ⟨w.heap.size + 1 + 1, 0, none⟩ = some (.int .u8 k2) := H9.out.b3.cell 0
  have p21 : w9.cell? ⟨w.heap.size + 1 + 1, 1, none⟩ = some (.int .i64 i2) := H9.out.b3.cell 1
  have p22 : w9.cell? ⟨w.heap.size + 1 + 1, 2, none⟩ = some (.int .u64 r2) := H9.out.b3.cell 2
  have p23 : w9.cell? ⟨w.heap.size + 1 + 1, 3, none⟩ = some (.string t2) := H9.out.b3.cell 3
  go_wp2_with fail
  refine (P12.out _ H9.out.v1 H9.out.v2).mono ?_
  rintro e w10 ⟨rfl, hb⟩
  have H10 := box (H9.out.later hb)
  clear hb p00 p01 p02 p03 p10 p11 p12 p13 p20 p21 p22 p23
  go_wp2_with fail
  refine (P21.out _ H10.out.v2 H10.out.v1).mono ?_
  rintro e w11 ⟨rfl, hb⟩
  have H11 := box (H10.out.later hb)
  clear hb
  go_wp2_with fail
  refine (S12.out _ H11.out.v1 H11.out.v2).mono ?_
  rintro e w12 ⟨rfl, hb⟩
  have H12 := box (H11.out.later hb)
  clear hb
  go_wp2_with fail
  refine (P12.out _ H12.out.v1 H12.out.v2).mono ?_
  rintro e w13 ⟨rfl, hb⟩
  have H13 := box (H12.out.later hb)
  clear hb
  go_wp2_with fail
  refine (P23.out _ H13.out.v2 H13.out.v3).mono ?_
  rintro e w14 ⟨rfl, hb⟩
  have H14 := box (H13.out.later hb)
  clear hb
  go_wp2_with fail
  refine (P13.out _ H14.out.v1 H14.out.v3).mono ?_
  rintro e w15 ⟨rfl, hb⟩
  have H15 := box (H14.out.later hb)
  clear hb
  go_wp2_with fail
  refine (alive04 _ H15.out.tabs).mono ?_
  rintro e w16 ⟨rfl, hb⟩
  have H16 := box (H15.out.later hb)
  clear hb
  go_wp2_with fail
  go_ret
  exact ⟨rfl, H16.out.below⟩

set_option maxHeartbeats 8000000 in
theorem line_main_dc (kk k1 k2 : Nat) (ii i1 i2 : Int) (rr r1 r2 : Nat) (tt t1 t2 : ByteArray) (a b c : Option Addr) (n m o ca cb cc : Nat) (l k j : List Val) (w : World) (hT : Tabs w) (hv1 : Vals w a n l) (hv2 : Vals w b m k) (hv3 : Vals w c o j)
    (K1 : Box (∀ W, Tabs W → Calls Tryd.prog 14 #[.agg #[.int .u8 kk, .int .i64 ii, .int .u64 rr, .string tt]] W fun e w' => e = .returned (.int .i64 0) ∧ Below W.heap.size W w')) (K2 : Box (∀ W, Tabs W → Calls Tryd.prog 14 #[.agg #[.int .u8 k1, .int .i64 i1, .int .u64 r1, .string t1]] W fun e w' => e = .returned (.int .i64 0) ∧ Below W.heap.size W w')) (K3 : Box (∀ W, Tabs W → Calls Tryd.prog 14 #[.agg #[.int .u8 k2, .int .i64 i2, .int .u64 r2, .string t2]] W fun e w' => e = .returned (.int .i64 0) ∧ Below W.heap.size W w')) (R1 : Box (∀ W, Vals W a n l → Tabs W → Calls Tryd.prog 16 #[.slice a n ca] W fun e w' => e = .returned (.int .i64 0) ∧ Below W.heap.size W w')) (R2 : Box (∀ W, Vals W b m k → Tabs W → Calls Tryd.prog 16 #[.slice b m cb] W fun e w' => e = .returned (.int .i64 0) ∧ Below W.heap.size W w')) (R3 : Box (∀ W, Vals W c o j → Tabs W → Calls Tryd.prog 16 #[.slice c o cc] W fun e w' => e = .returned (.int .i64 0) ∧ Below W.heap.size W w'))
    (L12 : Box (∀ W, Calls Tryd.prog 28 #[.agg #[.int .u8 kk, .int .i64 ii, .int .u64 rr, .string tt], .agg #[.int .u8 k1, .int .i64 i1, .int .u64 r1, .string t1]] W fun e w' => e = .returned (.bool false) ∧ Below W.heap.size W w')) (L21 : Box (∀ W, Calls Tryd.prog 28 #[.agg #[.int .u8 k1, .int .i64 i1, .int .u64 r1, .string t1], .agg #[.int .u8 kk, .int .i64 ii, .int .u64 rr, .string tt]] W fun e w' => e = .returned (.bool false) ∧ Below W.heap.size W w')) (EQ : ∀ w, (Op.equalIn 10000 24 (.agg #[.int .u8 kk, .int .i64 ii, .int .u64 rr, .string tt]) (.agg #[.int .u8 k1, .int .i64 i1, .int .u64 r1, .string t1])).run Tryd.prog w = .ok true w)
    (P12 : Box (∀ W, Vals W a n l → Vals W b m k → Calls Tryd.prog 30 #[.slice a n ca, .slice b m cb] W fun e w' => e = .returned (.bool false) ∧ Below W.heap.size W w')) (P21 : Box (∀ W, Vals W b m k → Vals W a n l → Calls Tryd.prog 30 #[.slice b m cb, .slice a n ca] W fun e w' => e = .returned (.bool true) ∧ Below W.heap.size W w')) (S12 : Box (∀ W, Vals W a n l → Vals W b m k → Calls Tryd.prog 31 #[.slice a n ca, .slice b m cb] W fun e w' => e = .returned (.bool false) ∧ Below W.heap.size W w')) :
    Calls Tryd.prog 6 #[.agg #[.int .u8 kk, .int .i64 ii, .int .u64 rr, .string tt], .agg #[.int .u8 k1, .int .i64 i1, .int .u64 r1, .string t1], .agg #[.int .u8 k2, .int .i64 i2, .int .u64 r2, .string t2], .slice a n ca, .slice b m cb, .slice c o cc] w fun e w' => e = .returned (.bool true) ∧ Below w.heap.size w w' := by
  have HT := box hT
  have V1 := box hv1
  have V2 := box hv2
  have V3 := box hv3
  clear hT hv1 hv2 hv3
  go_enter Tryd.func6, Tryd.ntmps6
  go_wp2_with fail
  obtain ⟨W, hW, hb, P, Q, R⟩ := three_boxes w #[.int .u8 kk, .int .i64 ii, .int .u64 rr, .string tt] #[.int .u8 k1, .int .i64 i1, .int .u64 r1, .string t1] #[.int .u8 k2, .int .i64 i2, .int .u64 r2, .string t2]
  have H0 : Box (Here w W ⟨kk, ii, rr, tt⟩ ⟨k1, i1, r1, t1⟩ ⟨k2, i2, r2, t2⟩ a b c n m o l k j) := box ⟨hb, HT.out.below hb, P, Q, R, vals_below V1.out hb, vals_below V2.out hb, vals_below V3.out hb⟩
  rw [hW]
  clear hW hb P Q R
  refine (K1.out _ H0.out.tabs).mono ?_
  rintro e w1 ⟨rfl, hb⟩
  have H1 := box (H0.out.later hb)
  clear hb
  have p00 : w1.cell? ⟨w.heap.size, 0, none⟩ = some (.int .u8 kk) := H1.out.b1.cell 0
  have p01 : w1.cell? ⟨w.heap.size, 1, none⟩ = some (.int .i64 ii) := H1.out.b1.cell 1
  have p02 : w1.cell? ⟨w.heap.size, 2, none⟩ = some (.int .u64 rr) := H1.out.b1.cell 2
  have p03 : w1.cell? ⟨w.heap.size, 3, none⟩ = some (.string tt) := H1.out.b1.cell 3
  have p10 : w1.cell? ⟨w.heap.size + 1, 0, none⟩ = some (.int .u8 k1) := H1.out.b2.cell 0
  have p11 : w1.cell? ⟨w.heap.size + 1, 1, none⟩ = some (.int .i64 i1) := H1.out.b2.cell 1
  have p12 : w1.cell? ⟨w.heap.size + 1, 2, none⟩ = some (.int .u64 r1) := H1.out.b2.cell 2
  have p13 : w1.cell? ⟨w.heap.size + 1, 3, none⟩ = some (.string t1) := H1.out.b2.cell 3
  have p20 : w1.cell? ⟨w.heap.size + 1 + 1, 0, none⟩ = some (.int .u8 k2) := H1.out.b3.cell 0
  have p21 : w1.cell? ⟨w.heap.size + 1 + 1, 1, none⟩ = some (.int .i64 i2) := H1.out.b3.cell 1
  have p22 : w1.cell? ⟨w.heap.size + 1 + 1, 2, none⟩ = some (.int .u64 r2) := H1.out.b3.cell 2
  have p23 : w1.cell? ⟨w.heap.size + 1 + 1, 3, none⟩ = some (.string t2) := H1.out.b3.cell 3
  go_wp2_with fail
  refine (K2.out _ H1.out.tabs).mono ?_
  rintro e w2 ⟨rfl, hb⟩
  have H2 := box (H1.out.later hb)
  clear hb p00 p01 p02 p03 p10 p11 p12 p13 p20 p21 p22 p23
  have p00 : w2.cell? ⟨w.heap.size, 0, none⟩ = some (.int .u8 kk) := H2.out.b1.cell 0
  have p01 : w2.cell? ⟨w.heap.size, 1, none⟩ = some (.int .i64 ii) := H2.out.b1.cell 1
  have p02 : w2.cell? ⟨w.heap.size, 2, none⟩ = some (.int .u64 rr) := H2.out.b1.cell 2
  have p03 : w2.cell? ⟨w.heap.size, 3, none⟩ = some (.string tt) := H2.out.b1.cell 3
  have p10 : w2.cell? ⟨w.heap.size + 1, 0, none⟩ = some (.int .u8 k1) := H2.out.b2.cell 0
  have p11 : w2.cell? ⟨w.heap.size + 1, 1, none⟩ = some (.int .i64 i1) := H2.out.b2.cell 1
  have p12 : w2.cell? ⟨w.heap.size + 1, 2, none⟩ = some (.int .u64 r1) := H2.out.b2.cell 2
  have p13 : w2.cell? ⟨w.heap.size + 1, 3, none⟩ = some (.string t1) := H2.out.b2.cell 3
  have p20 : w2.cell? ⟨w.heap.size + 1 + 1, 0, none⟩ = some (.int .u8 k2) := H2.out.b3.cell 0
  have p21 : w2.cell? ⟨w.heap.size + 1 + 1, 1, none⟩ = some (.int .i64 i2) := H2.out.b3.cell 1
  have p22 : w2.cell? ⟨w.heap.size + 1 + 1, 2, none⟩ = some (.int .u64 r2) := H2.out.b3.cell 2
  have p23 : w2.cell? ⟨w.heap.size + 1 + 1, 3, none⟩ = some (.string t2) := H2.out.b3.cell 3
  go_wp2_with fail
  refine (K3.out _ H2.out.tabs).mono ?_
  rintro e w3 ⟨rfl, hb⟩
  have H3 := box (H2.out.later hb)
  clear hb p00 p01 p02 p03 p10 p11 p12 p13 p20 p21 p22 p23
  go_wp2_with fail
  refine (R1.out _ H3.out.v1 H3.out.tabs).mono ?_
  rintro e w4 ⟨rfl, hb⟩
  have H4 := box (H3.out.later hb)
  clear hb
  go_wp2_with fail
  refine (R2.out _ H4.out.v2 H4.out.tabs).mono ?_
  rintro e w5 ⟨rfl, hb⟩
  have H5 := box (H4.out.later hb)
  clear hb
  go_wp2_with fail
  refine (R3.out _ H5.out.v3 H5.out.tabs).mono ?_
  rintro e w6 ⟨rfl, hb⟩
  have H6 := box (H5.out.later hb)
  clear hb
  have p00 : w6.cell? ⟨w.heap.size, 0, none⟩ = some (.int .u8 kk) := H6.out.b1.cell 0
  have p01 : w6.cell? ⟨w.heap.size, 1, none⟩ = some (.int .i64 ii) := H6.out.b1.cell 1
  have p02 : w6.cell? ⟨w.heap.size, 2, none⟩ = some (.int .u64 rr) := H6.out.b1.cell 2
  have p03 : w6.cell? ⟨w.heap.size, 3, none⟩ = some (.string tt) := H6.out.b1.cell 3
  have p10 : w6.cell? ⟨w.heap.size + 1, 0, none⟩ = some (.int .u8 k1) := H6.out.b2.cell 0
  have p11 : w6.cell? ⟨w.heap.size + 1, 1, none⟩ = some (.int .i64 i1) := H6.out.b2.cell 1
  have p12 : w6.cell? ⟨w.heap.size + 1, 2, none⟩ = some (.int .u64 r1) := H6.out.b2.cell 2
  have p13 : w6.cell? ⟨w.heap.size + 1, 3, none⟩ = some (.string t1) := H6.out.b2.cell 3
  have p20 : w6.cell? ⟨w.heap.size + 1 + 1, 0, none⟩ = some (.int .u8 k2) := H6.out.b3.cell 0
  have p21 : w6.cell? ⟨w.heap.size + 1 + 1, 1, none⟩ = some (.int .i64 i2) := H6.out.b3.cell 1
  have p22 : w6.cell? ⟨w.heap.size + 1 + 1, 2, none⟩ = some (.int .u64 r2) := H6.out.b3.cell 2
  have p23 : w6.cell? ⟨w.heap.size + 1 + 1, 3, none⟩ = some (.string t2) := H6.out.b3.cell 3
  go_wp2_with fail
  refine (L12.out _).mono ?_
  rintro e w7 ⟨rfl, hb⟩
  have H7 := box (H6.out.later hb)
  clear hb p00 p01 p02 p03 p10 p11 p12 p13 p20 p21 p22 p23
  have p00 : w7.cell? ⟨w.heap.size, 0, none⟩ = some (.int .u8 kk) := H7.out.b1.cell 0
  have p01 : w7.cell? ⟨w.heap.size, 1, none⟩ = some (.int .i64 ii) := H7.out.b1.cell 1
  have p02 : w7.cell? ⟨w.heap.size, 2, none⟩ = some (.int .u64 rr) := H7.out.b1.cell 2
  have p03 : w7.cell? ⟨w.heap.size, 3, none⟩ = some (.string tt) := H7.out.b1.cell 3
  have p10 : w7.cell? ⟨w.heap.size + 1, 0, none⟩ = some (.int .u8 k1) := H7.out.b2.cell 0
  have p11 : w7.cell? ⟨w.heap.size + 1, 1, none⟩ = some (.int .i64 i1) := H7.out.b2.cell 1
  have p12 : w7.cell? ⟨w.heap.size + 1, 2, none⟩ = some (.int .u64 r1) := H7.out.b2.cell 2
  have p13 : w7.cell? ⟨w.heap.size + 1, 3, none⟩ = some (.string t1) := H7.out.b2.cell 3
  have p20 : w7.cell? ⟨w.heap.size + 1 + 1, 0, none⟩ = some (.int .u8 k2) := H7.out.b3.cell 0
  have p21 : w7.cell? ⟨w.heap.size + 1 + 1, 1, none⟩ = some (.int .i64 i2) := H7.out.b3.cell 1
  have p22 : w7.cell? ⟨w.heap.size + 1 + 1, 2, none⟩ = some (.int .u64 r2) := H7.out.b3.cell 2
  have p23 : w7.cell? ⟨w.heap.size + 1 + 1, 3, none⟩ = some (.string t2) := H7.out.b3.cell 3
  go_wp2_with fail
  refine (L21.out _).mono ?_
  rintro e w8 ⟨rfl, hb⟩
  have H8 := box (H7.out.later hb)
  clear hb p00 p01 p02 p03 p10 p11 p12 p13 p20 p21 p22 p23
  have p00 : w8.cell? ⟨w.heap.size, 0, none⟩ = some (.int .u8 kk) := H8.out.b1.cell 0
  have p01 : w8.cell? ⟨w.heap.size, 1, none⟩ = some (.int .i64 ii) := H8.out.b1.cell 1
  have p02 : w8.cell? ⟨w.heap.size, 2, none⟩ = some (.int .u64 rr) := H8.out.b1.cell 2
  have p03 : w8.cell? ⟨w.heap.size, 3, none⟩ = some (.string tt) := H8.out.b1.cell 3
  have p10 : w8.cell? ⟨w.heap.size + 1, 0, none⟩ = some (.int .u8 k1) := H8.out.b2.cell 0
  have p11 : w8.cell? ⟨w.heap.size + 1, 1, none⟩ = some (.int .i64 i1) := H8.out.b2.cell 1
  have p12 : w8.cell? ⟨w.heap.size + 1, 2, none⟩ = some (.int .u64 r1) := H8.out.b2.cell 2
  have p13 : w8.cell? ⟨w.heap.size + 1, 3, none⟩ = some (.string t1) := H8.out.b2.cell 3
  have p20 : w8.cell? ⟨w.heap.size + 1 + 1, 0, none⟩ = some (.int .u8 k2) := H8.out.b3.cell 0
  have p21 : w8.cell? ⟨w.heap.size + 1 + 1, 1, none⟩ = some (.int .i64 i2) := H8.out.b3.cell 1
  have p22 : w8.cell? ⟨w.heap.size + 1 + 1, 2, none⟩ = some (.int .u64 r2) := H8.out.b3.cell 2
  have p23 : w8.cell? ⟨w.heap.size + 1 + 1, 3, none⟩ = some (.string t2) := H8.out.b3.cell 3
  go_wp2_with fail
  refine (L12.out _).mono ?_
  rintro e w9 ⟨rfl, hb⟩
  have H9 := box (H8.out.later hb)
  clear hb p00 p01 p02 p03 p10 p11 p12 p13 p20 p21 p22 p23
  have p00 : w9.cell? ⟨w.heap.size, 0, none⟩ = some (.int .u8 kk) := H9.out.b1.cell 0
  have p01 : w9.cell? ⟨w.heap.size, 1, none⟩ = some (.int .i64 ii) := H9.out.b1.cell 1
  have p02 : w9.cell? ⟨w.heap.size, 2, none⟩ = some (.int .u64 rr) := H9.out.b1.cell 2
  have p03 : w9.cell? ⟨w.heap.size, 3, none⟩ = some (.string tt) := H9.out.b1.cell 3
  have p10 : w9.cell? ⟨w.heap.size + 1, 0, none⟩ = some (.int .u8 k1) := H9.out.b2.cell 0
  have p11 : w9.cell? ⟨w.heap.size + 1, 1, none⟩ = some (.int .i64 i1) := H9.out.b2.cell 1
  have p12 : w9.cell? ⟨w.heap.size + 1, 2, none⟩ = some (.int .u64 r1) := H9.out.b2.cell 2
  have p13 : w9.cell? ⟨w.heap.size + 1, 3, none⟩ = some (.string t1) := H9.out.b2.cell 3
  have p20 : w9.cell? ⟨w.heap.size + 1 + 1, 0, none⟩ = some (.int .u8 k2) := H9.out.b3.cell 0
  have p21 : w9.cell? ⟨w.heap.size + 1 + 1, 1, none⟩ = some (.int .i64 i2) := H9.out.b3.cell 1
  have p22 : w9.cell? ⟨w.heap.size + 1 + 1, 2, none⟩ = some (.int .u64 r2) := H9.out.b3.cell 2
  have p23 : w9.cell? ⟨w.heap.size + 1 + 1, 3, none⟩ = some (.string t2) := H9.out.b3.cell 3
  go_wp2_with fail
  refine (P12.out _ H9.out.v1 H9.out.v2).mono ?_
  rintro e w10 ⟨rfl, hb⟩
  have H10 := box (H9.out.later hb)
  clear hb p00 p01 p02 p03 p10 p11 p12 p13 p20 p21 p22 p23
  go_wp2_with fail
  refine (P21.out _ H10.out.v2 H10.out.v1).mono ?_
  rintro e w11 ⟨rfl, hb⟩
  have H11 := box (H10.out.later hb)
  clear hb
  go_wp2_with fail
  refine (S12.out _ H11.out.v1 H11.out.v2).mono ?_
  rintro e w12 ⟨rfl, hb⟩
  have H12 := box (H11.out.later hb)
  clear hb
  go_wp2_with fail
  refine (P12.out _ H12.out.v1 H12.out.v2).mono ?_
  rintro e w13 ⟨rfl, hb⟩
  have H13 := box (H12.out.later hb)
  clear hb
  go_wp2_with fail
  refine (alive04 _ H13.out.tabs).mono ?_
  rintro e w14 ⟨rfl, hb⟩
  have H14 := box (H13.out.later hb)
  clear hb
  go_wp2_with fail
  go_ret
  exact ⟨rfl, H14.out.below⟩

set_option maxHeartbeats 8000000 in
theorem line_main_dd (kk k1 k2 : Nat) (ii i1 i2 : Int) (rr r1 r2 : Nat) (tt t1 t2 : ByteArray) (a b c : Option Addr) (n m o ca cb cc : Nat) (l k j : List Val) (w : World) (hT : Tabs w) (hv1 : Vals w a n l) (hv2 : Vals w b m k) (hv3 : Vals w c o j)
    (K1 : Box (∀ W, Tabs W → Calls Tryd.prog 14 #[.agg #[.int .u8 kk, .int .i64 ii, .int .u64 rr, .string tt]] W fun e w' => e = .returned (.int .i64 0) ∧ Below W.heap.size W w')) (K2 : Box (∀ W, Tabs W → Calls Tryd.prog 14 #[.agg #[.int .u8 k1, .int .i64 i1, .int .u64 r1, .string t1]] W fun e w' => e = .returned (.int .i64 0) ∧ Below W.heap.size W w')) (K3 : Box (∀ W, Tabs W → Calls Tryd.prog 14 #[.agg #[.int .u8 k2, .int .i64 i2, .int .u64 r2, .string t2]] W fun e w' => e = .returned (.int .i64 0) ∧ Below W.heap.size W w')) (R1 : Box (∀ W, Vals W a n l → Tabs W → Calls Tryd.prog 16 #[.slice a n ca] W fun e w' => e = .returned (.int .i64 0) ∧ Below W.heap.size W w')) (R2 : Box (∀ W, Vals W b m k → Tabs W → Calls Tryd.prog 16 #[.slice b m cb] W fun e w' => e = .returned (.int .i64 0) ∧ Below W.heap.size W w')) (R3 : Box (∀ W, Vals W c o j → Tabs W → Calls Tryd.prog 16 #[.slice c o cc] W fun e w' => e = .returned (.int .i64 0) ∧ Below W.heap.size W w'))
    (L12 : Box (∀ W, Calls Tryd.prog 28 #[.agg #[.int .u8 kk, .int .i64 ii, .int .u64 rr, .string tt], .agg #[.int .u8 k1, .int .i64 i1, .int .u64 r1, .string t1]] W fun e w' => e = .returned (.bool false) ∧ Below W.heap.size W w')) (L21 : Box (∀ W, Calls Tryd.prog 28 #[.agg #[.int .u8 k1, .int .i64 i1, .int .u64 r1, .string t1], .agg #[.int .u8 kk, .int .i64 ii, .int .u64 rr, .string tt]] W fun e w' => e = .returned (.bool false) ∧ Below W.heap.size W w')) (EQ : ∀ w, (Op.equalIn 10000 24 (.agg #[.int .u8 kk, .int .i64 ii, .int .u64 rr, .string tt]) (.agg #[.int .u8 k1, .int .i64 i1, .int .u64 r1, .string t1])).run Tryd.prog w = .ok true w)
    (P12 : Box (∀ W, Vals W a n l → Vals W b m k → Calls Tryd.prog 30 #[.slice a n ca, .slice b m cb] W fun e w' => e = .returned (.bool false) ∧ Below W.heap.size W w')) (P21 : Box (∀ W, Vals W b m k → Vals W a n l → Calls Tryd.prog 30 #[.slice b m cb, .slice a n ca] W fun e w' => e = .returned (.bool false) ∧ Below W.heap.size W w')) (S12 : Box (∀ W, Vals W a n l → Vals W b m k → Calls Tryd.prog 31 #[.slice a n ca, .slice b m cb] W fun e w' => e = .returned (.bool true) ∧ Below W.heap.size W w')) :
    Calls Tryd.prog 6 #[.agg #[.int .u8 kk, .int .i64 ii, .int .u64 rr, .string tt], .agg #[.int .u8 k1, .int .i64 i1, .int .u64 r1, .string t1], .agg #[.int .u8 k2, .int .i64 i2, .int .u64 r2, .string t2], .slice a n ca, .slice b m cb, .slice c o cc] w fun e w' => e = .returned (.bool true) ∧ Below w.heap.size w w' := by
  have HT := box hT
  have V1 := box hv1
  have V2 := box hv2
  have V3 := box hv3
  clear hT hv1 hv2 hv3
  go_enter Tryd.func6, Tryd.ntmps6
  go_wp2_with fail
  obtain ⟨W, hW, hb, P, Q, R⟩ := three_boxes w #[.int .u8 kk, .int .i64 ii, .int .u64 rr, .string tt] #[.int .u8 k1, .int .i64 i1, .int .u64 r1, .string t1] #[.int .u8 k2, .int .i64 i2, .int .u64 r2, .string t2]
  have H0 : Box (Here w W ⟨kk, ii, rr, tt⟩ ⟨k1, i1, r1, t1⟩ ⟨k2, i2, r2, t2⟩ a b c n m o l k j) := box ⟨hb, HT.out.below hb, P, Q, R, vals_below V1.out hb, vals_below V2.out hb, vals_below V3.out hb⟩
  rw [hW]
  clear hW hb P Q R
  refine (K1.out _ H0.out.tabs).mono ?_
  rintro e w1 ⟨rfl, hb⟩
  have H1 := box (H0.out.later hb)
  clear hb
  have p00 : w1.cell? ⟨w.heap.size, 0, none⟩ = some (.int .u8 kk) := H1.out.b1.cell 0
  have p01 : w1.cell? ⟨w.heap.size, 1, none⟩ = some (.int .i64 ii) := H1.out.b1.cell 1
  have p02 : w1.cell? ⟨w.heap.size, 2, none⟩ = some (.int .u64 rr) := H1.out.b1.cell 2
  have p03 : w1.cell? ⟨w.heap.size, 3, none⟩ = some (.string tt) := H1.out.b1.cell 3
  have p10 : w1.cell? ⟨w.heap.size + 1, 0, none⟩ = some (.int .u8 k1) := H1.out.b2.cell 0
  have p11 : w1.cell? ⟨w.heap.size + 1, 1, none⟩ = some (.int .i64 i1) := H1.out.b2.cell 1
  have p12 : w1.cell? ⟨w.heap.size + 1, 2, none⟩ = some (.int .u64 r1) := H1.out.b2.cell 2
  have p13 : w1.cell? ⟨w.heap.size + 1, 3, none⟩ = some (.string t1) := H1.out.b2.cell 3
  have p20 : w1.cell? ⟨w.heap.size + 1 + 1, 0, none⟩ = some (.int .u8 k2) := H1.out.b3.cell 0
  have p21 : w1.cell? ⟨w.heap.size + 1 + 1, 1, none⟩ = some (.int .i64 i2) := H1.out.b3.cell 1
  have p22 : w1.cell? ⟨w.heap.size + 1 + 1, 2, none⟩ = some (.int .u64 r2) := H1.out.b3.cell 2
  have p23 : w1.cell? ⟨w.heap.size + 1 + 1, 3, none⟩ = some (.string t2) := H1.out.b3.cell 3
  go_wp2_with fail
  refine (K2.out _ H1.out.tabs).mono ?_
  rintro e w2 ⟨rfl, hb⟩
  have H2 := box (H1.out.later hb)
  clear hb p00 p01 p02 p03 p10 p11 p12 p13 p20 p21 p22 p23
  have p00 : w2.cell? ⟨w.heap.size, 0, none⟩ = some (.int .u8 kk) := H2.out.b1.cell 0
  have p01 : w2.cell? ⟨w.heap.size, 1, none⟩ = some (.int .i64 ii) := H2.out.b1.cell 1
  have p02 : w2.cell? ⟨w.heap.size, 2, none⟩ = some (.int .u64 rr) := H2.out.b1.cell 2
  have p03 : w2.cell? ⟨w.heap.size, 3, none⟩ = some (.string tt) := H2.out.b1.cell 3
  have p10 : w2.cell? ⟨w.heap.size + 1, 0, none⟩ = some (.int .u8 k1) := H2.out.b2.cell 0
  have p11 : w2.cell? ⟨w.heap.size + 1, 1, none⟩ = some (.int .i64 i1) := H2.out.b2.cell 1
  have p12 : w2.cell? ⟨w.heap.size + 1, 2, none⟩ = some (.int .u64 r1) := H2.out.b2.cell 2
  have p13 : w2.cell? ⟨w.heap.size + 1, 3, none⟩ = some (.string t1) := H2.out.b2.cell 3
  have p20 : w2.cell? ⟨w.heap.size + 1 + 1, 0, none⟩ = some (.int .u8 k2) := H2.out.b3.cell 0
  have p21 : w2.cell? ⟨w.heap.size + 1 + 1, 1, none⟩ = some (.int .i64 i2) := H2.out.b3.cell 1
  have p22 : w2.cell? ⟨w.heap.size + 1 + 1, 2, none⟩ = some (.int .u64 r2) := H2.out.b3.cell 2
  have p23 : w2.cell? ⟨w.heap.size + 1 + 1, 3, none⟩ = some (.string t2) := H2.out.b3.cell 3
  go_wp2_with fail
  refine (K3.out _ H2.out.tabs).mono ?_
  rintro e w3 ⟨rfl, hb⟩
  have H3 := box (H2.out.later hb)
  clear hb p00 p01 p02 p03 p10 p11 p12 p13 p20 p21 p22 p23
  go_wp2_with fail
  refine (R1.out _ H3.out.v1 H3.out.tabs).mono ?_
  rintro e w4 ⟨rfl, hb⟩
  have H4 := box (H3.out.later hb)
  clear hb
  go_wp2_with fail
  refine (R2.out _ H4.out.v2 H4.out.tabs).mono ?_
  rintro e w5 ⟨rfl, hb⟩
  have H5 := box (H4.out.later hb)
  clear hb
  go_wp2_with fail
  refine (R3.out _ H5.out.v3 H5.out.tabs).mono ?_
  rintro e w6 ⟨rfl, hb⟩
  have H6 := box (H5.out.later hb)
  clear hb
  have p00 : w6.cell? ⟨w.heap.size, 0, none⟩ = some (.int .u8 kk) := H6.out.b1.cell 0
  have p01 : w6.cell? ⟨w.heap.size, 1, none⟩ = some (.int .i64 ii) := H6.out.b1.cell 1
  have p02 : w6.cell? ⟨w.heap.size, 2, none⟩ = some (.int .u64 rr) := H6.out.b1.cell 2
  have p03 : w6.cell? ⟨w.heap.size, 3, none⟩ = some (.string tt) := H6.out.b1.cell 3
  have p10 : w6.cell? ⟨w.heap.size + 1, 0, none⟩ = some (.int .u8 k1) := H6.out.b2.cell 0
  have p11 : w6.cell? ⟨w.heap.size + 1, 1, none⟩ = some (.int .i64 i1) := H6.out.b2.cell 1
  have p12 : w6.cell? ⟨w.heap.size + 1, 2, none⟩ = some (.int .u64 r1) := H6.out.b2.cell 2
  have p13 : w6.cell? ⟨w.heap.size + 1, 3, none⟩ = some (.string t1) := H6.out.b2.cell 3
  have p20 : w6.cell? ⟨w.heap.size + 1 + 1, 0, none⟩ = some (.int .u8 k2) := H6.out.b3.cell 0
  have p21 : w6.cell? ⟨w.heap.size + 1 + 1, 1, none⟩ = some (.int .i64 i2) := H6.out.b3.cell 1
  have p22 : w6.cell? ⟨w.heap.size + 1 + 1, 2, none⟩ = some (.int .u64 r2) := H6.out.b3.cell 2
  have p23 : w6.cell? ⟨w.heap.size + 1 + 1, 3, none⟩ = some (.string t2) := H6.out.b3.cell 3
  go_wp2_with fail
  refine (L12.out _).mono ?_
  rintro e w7 ⟨rfl, hb⟩
  have H7 := box (H6.out.later hb)
  clear hb p00 p01 p02 p03 p10 p11 p12 p13 p20 p21 p22 p23
  have p00 : w7.cell? ⟨w.heap.size, 0, none⟩ = some (.int .u8 kk) := H7.out.b1.cell 0
  have p01 : w7.cell? ⟨w.heap.size, 1, none⟩ = some (.int .i64 ii) := H7.out.b1.cell 1
  have p02 : w7.cell? ⟨w.heap.size, 2, none⟩ = some (.int .u64 rr) := H7.out.b1.cell 2
  have p03 : w7.cell? ⟨w.heap.size, 3, none⟩ = some (.string tt) := H7.out.b1.cell 3
  have p10 : w7.cell? ⟨w.heap.size + 1, 0, none⟩ = some (.int .u8 k1) := H7.out.b2.cell 0
  have p11 : w7.cell? ⟨w.heap.size + 1, 1, none⟩ = some (.int .i64 i1) := H7.out.b2.cell 1
  have p12 : w7.cell? ⟨w.heap.size + 1, 2, none⟩ = some (.int .u64 r1) := H7.out.b2.cell 2
  have p13 : w7.cell? ⟨w.heap.size + 1, 3, none⟩ = some (.string t1) := H7.out.b2.cell 3
  have p20 : w7.cell? ⟨w.heap.size + 1 + 1, 0, none⟩ = some (.int .u8 k2) := H7.out.b3.cell 0
  have p21 : w7.cell? ⟨w.heap.size + 1 + 1, 1, none⟩ = some (.int .i64 i2) := H7.out.b3.cell 1
  have p22 : w7.cell? ⟨w.heap.size + 1 + 1, 2, none⟩ = some (.int .u64 r2) := H7.out.b3.cell 2
  have p23 : w7.cell? ⟨w.heap.size + 1 + 1, 3, none⟩ = some (.string t2) := H7.out.b3.cell 3
  go_wp2_with fail
  refine (L21.out _).mono ?_
  rintro e w8 ⟨rfl, hb⟩
  have H8 := box (H7.out.later hb)
  clear hb p00 p01 p02 p03 p10 p11 p12 p13 p20 p21 p22 p23
  have p00 : w8.cell? ⟨w.heap.size, 0, none⟩ = some (.int .u8 kk) := H8.out.b1.cell 0
  have p01 : w8.cell? ⟨w.heap.size, 1, none⟩ = some (.int .i64 ii) := H8.out.b1.cell 1
  have p02 : w8.cell? ⟨w.heap.size, 2, none⟩ = some (.int .u64 rr) := H8.out.b1.cell 2
  have p03 : w8.cell? ⟨w.heap.size, 3, none⟩ = some (.string tt) := H8.out.b1.cell 3
  have p10 : w8.cell? ⟨w.heap.size + 1, 0, none⟩ = some (.int .u8 k1) := H8.out.b2.cell 0
  have p11 : w8.cell? ⟨w.heap.size + 1, 1, none⟩ = some (.int .i64 i1) := H8.out.b2.cell 1
  have p12 : w8.cell? ⟨w.heap.size + 1, 2, none⟩ = some (.int .u64 r1) := H8.out.b2.cell 2
  have p13 : w8.cell? ⟨w.heap.size + 1, 3, none⟩ = some (.string t1) := H8.out.b2.cell 3
  have p20 : w8.cell? ⟨w.heap.size + 1 + 1, 0, none⟩ = some (.int .u8 k2) := H8.out.b3.cell 0
  have p21 : w8.cell? ⟨w.heap.size + 1 + 1, 1, none⟩ = some (.int .i64 i2) := H8.out.b3.cell 1
  have p22 : w8.cell? ⟨w.heap.size + 1 + 1, 2, none⟩ = some (.int .u64 r2) := H8.out.b3.cell 2
  have p23 : w8.cell? ⟨w.heap.size + 1 + 1, 3, none⟩ = some (.string t2) := H8.out.b3.cell 3
  go_wp2_with fail
  refine (L12.out _).mono ?_
  rintro e w9 ⟨rfl, hb⟩
  have H9 := box (H8.out.later hb)
  clear hb p00 p01 p02 p03 p10 p11 p12 p13 p20 p21 p22 p23
  have p00 : w9.cell? ⟨w.heap.size, 0, none⟩ = some (.int .u8 kk) := H9.out.b1.cell 0
  have p01 : w9.cell? ⟨w.heap.size, 1, none⟩ = some (.int .i64 ii) := H9.out.b1.cell 1
  have p02 : w9.cell? ⟨w.heap.size, 2, none⟩ = some (.int .u64 rr) := H9.out.b1.cell 2
  have p03 : w9.cell? ⟨w.heap.size, 3, none⟩ = some (.string tt) := H9.out.b1.cell 3
  have p10 : w9.cell? ⟨w.heap.size + 1, 0, none⟩ = some (.int .u8 k1) := H9.out.b2.cell 0
  have p11 : w9.cell? ⟨w.heap.size + 1, 1, none⟩ = some (.int .i64 i1) := H9.out.b2.cell 1
  have p12 : w9.cell? ⟨w.heap.size + 1, 2, none⟩ = some (.int .u64 r1) := H9.out.b2.cell 2
  have p13 : w9.cell? ⟨w.heap.size + 1, 3, none⟩ = some (.string t1) := H9.out.b2.cell 3
  have p20 : w9.cell? ⟨w.heap.size + 1 + 1, 0, none⟩ = some (.int .u8 k2) := H9.out.b3.cell 0
  have p21 : w9.cell? ⟨w.heap.size + 1 + 1, 1, none⟩ = some (.int .i64 i2) := H9.out.b3.cell 1
  have p22 : w9.cell? ⟨w.heap.size + 1 + 1, 2, none⟩ = some (.int .u64 r2) := H9.out.b3.cell 2
  have p23 : w9.cell? ⟨w.heap.size + 1 + 1, 3, none⟩ = some (.string t2) := H9.out.b3.cell 3
  go_wp2_with fail
  refine (P12.out _ H9.out.v1 H9.out.v2).mono ?_
  rintro e w10 ⟨rfl, hb⟩
  have H10 := box (H9.out.later hb)
  clear hb p00 p01 p02 p03 p10 p11 p12 p13 p20 p21 p22 p23
  go_wp2_with fail
  refine (P21.out _ H10.out.v2 H10.out.v1).mono ?_
  rintro e w11 ⟨rfl, hb⟩
  have H11 := box (H10.out.later hb)
  clear hb
  go_wp2_with fail
  refine (S12.out _ H11.out.v1 H11.out.v2).mono ?_
  rintro e w12 ⟨rfl, hb⟩
  have H12 := box (H11.out.later hb)
  clear hb
  go_wp2_with fail
  refine (P12.out _ H12.out.v1 H12.out.v2).mono ?_
  rintro e w13 ⟨rfl, hb⟩
  have H13 := box (H12.out.later hb)
  clear hb
  go_wp2_with fail
  refine (alive04 _ H13.out.tabs).mono ?_
  rintro e w14 ⟨rfl, hb⟩
  have H14 := box (H13.out.later hb)
  clear hb
  go_wp2_with fail
  go_ret
  exact ⟨rfl, H14.out.below⟩


theorem allMay_of {l : List Val} (h : ∀ x ∈ l, x.Ok) (hm : rowMay l = true) : AllMay l := by
  intro x hx
  unfold rowMay at hm
  have h2 := (Bool.and_eq_true_iff.1 hm).2
  exact ⟨List.all_eq_true.1 h2 x hx, (h x hx).real⟩

set_option maxHeartbeats 4000000 in
theorem valueLine_walk {w : World} (x : Val) (hx : x.Ok) (y : Val) (hy : y.Ok) (z : Val) (hz : z.Ok)
    (a : Option Addr) (n ca : Nat) (l : List Val) (h1 : Vals w a n l ∧ n ≤ ca ∧ ca ≤ maxLen ∧ (a = none → ca = 0))
    (b : Option Addr) (m cb : Nat) (k : List Val) (h2 : Vals w b m k ∧ m ≤ cb ∧ cb ≤ maxLen ∧ (b = none → cb = 0))
    (c : Option Addr) (o cc : Nat) (j : List Val) (h3 : Vals w c o j ∧ o ≤ cc ∧ cc ≤ maxLen ∧ (c = none → cc = 0)) (hT : Tabs w) :
    Calls Tryd.prog 6 #[x.v, y.v, z.v, .slice a n ca, .slice b m cb, .slice c o cc] w fun e w' => e = .returned (.bool true) ∧ Below w.heap.size w w' := by
  have hv1 := h1.1
  have hv2 := h2.1
  have hv3 := h3.1
  clear h1 h2 h3
  have K1 := box (fun W hT => check_any x hx W validHas hT)
  have K2 := box (fun W hT => check_any y hy W validHas hT)
  have K3 := box (fun W hT => check_any z hz W validHas hT)
  have R1 := box (fun W h hT => row_any a n ca l W h hT)
  have R2 := box (fun W h hT => row_any b m cb k W h hT)
  have R3 := box (fun W h hT => row_any c o cc j W h hT)
  have L12 := box (fun W => less_v x y hx hy W)
  have L21 := box (fun W => less_v y x hy hx W)
  have L23 := box (fun W => less_v y z hy hz W)
  have L13 := box (fun W => less_v x z hx hz W)
  have P12 := box (fun W h h' => rowless_any a b n m ca cb l k W h h')
  have P21 := box (fun W h h' => rowless_any b a m n cb ca k l W h h')
  have P23 := box (fun W h h' => rowless_any b c m o cb cc k j W h h')
  have P13 := box (fun W h h' => rowless_any a c n o ca cc l j W h h')
  have S12 := box (fun W h h' => same_any a b n m ca cb l k W h h')
  have EQ := eq_run x.kind y.kind x.int y.int x.real y.real x.text y.text
  rw [show eqV ⟨x.kind, x.int, x.real, x.text⟩ ⟨y.kind, y.int, y.real, y.text⟩ = eqV x y from rfl] at EQ
  by_cases m1 : x.may = true
  case neg => rw [show x.err = 2 from if_neg m1] at K1; exact line_bad0 x.kind y.kind z.kind x.int y.int z.int x.real y.real z.real x.text y.text z.text a b c n m o ca cb cc l k j w hT hv1 hv2 hv3 K1
  rw [show x.err = 0 from if_pos m1] at K1
  by_cases m2 : y.may = true
  case neg => rw [show y.err = 2 from if_neg m2] at K2; exact line_bad1 x.kind y.kind z.kind x.int y.int z.int x.real y.real z.real x.text y.text z.text a b c n m o ca cb cc l k j w hT hv1 hv2 hv3 K1 K2
  rw [show y.err = 0 from if_pos m2] at K2
  by_cases m3 : z.may = true
  case neg => rw [show z.err = 2 from if_neg m3] at K3; exact line_bad2 x.kind y.kind z.kind x.int y.int z.int x.real y.real z.real x.text y.text z.text a b c n m o ca cb cc l k j w hT hv1 hv2 hv3 K1 K2 K3
  rw [show z.err = 0 from if_pos m3] at K3
  by_cases m4 : rowMay l = true
  case neg => rw [show rowErr l = 2 from if_neg m4] at R1; exact line_bad3 x.kind y.kind z.kind x.int y.int z.int x.real y.real z.real x.text y.text z.text a b c n m o ca cb cc l k j w hT hv1 hv2 hv3 K1 K2 K3 R1
  rw [show rowErr l = 0 from if_pos m4] at R1
  by_cases m5 : rowMay k = true
  case neg => rw [show rowErr k = 2 from if_neg m5] at R2; exact line_bad4 x.kind y.kind z.kind x.int y.int z.int x.real y.real z.real x.text y.text z.text a b c n m o ca cb cc l k j w hT hv1 hv2 hv3 K1 K2 K3 R1 R2
  rw [show rowErr k = 0 from if_pos m5] at R2
  by_cases m6 : rowMay j = true
  case neg => rw [show rowErr j = 2 from if_neg m6] at R3; exact line_bad5 x.kind y.kind z.kind x.int y.int z.int x.real y.real z.real x.text y.text z.text a b c n m o ca cb cc l k j w hT hv1 hv2 hv3 K1 K2 K3 R1 R2 R3
  rw [show rowErr j = 0 from if_pos m6] at R3
  have ml : AllMay l := allMay_of (fun p hp => (hv1.2.2.1 p hp).1) m4
  have mk : AllMay k := allMay_of (fun p hp => (hv2.2.2.1 p hp).1) m5
  have hav : ∀ p ∈ l, ∀ q ∈ k, lessV p q = true → lessV q p = false := by
    intro p hp q hq h
    rcases lessV_one (ml p hp).1 (mk q hq).1 (ml p hp).2 (mk q hq).2 with ⟨_, h2, _⟩ | ⟨h1, _, _⟩ | ⟨h1, _, _⟩
    · exact h2
    · rw [h1] at h; cases h
    · rw [h1] at h; cases h
  have O := lessV_one m1 m2 hx.real hy.real
  have OR := rowLess_one l k ml mk
  have TR : lessV x y = true → lessV y z = true → lessV x z = true := fun h h' => lessV_trans h h'
  have TRR : rowLess l k = true → rowLess k j = true → rowLess l j = true := fun h h' => rowLess_trans l k j h h' hav
  rcases O with ⟨e1, e2, e3⟩ | ⟨e1, e2, e3⟩ | ⟨e1, e2, e3⟩
  · rw [e1] at L12; rw [e2] at L21; rw [e3] at EQ
    by_cases e4 : lessV y z = true
    · rw [TR e1 e4] at L13; rw [e4] at L23
      rcases OR with ⟨f1, f2, f3⟩ | ⟨f1, f2, f3⟩ | ⟨f1, f2, f3⟩
      · rw [f1] at P12; rw [f2] at P21; rw [f3] at S12
        by_cases f4 : rowLess k j = true
        · rw [TRR f1 f4] at P13; rw [f4] at P23; exact line_main_bb x.kind y.kind z.kind x.int y.int z.int x.real y.real z.real x.text y.text z.text a b c n m o ca cb cc l k j w hT hv1 hv2 hv3 K1 K2 K3 R1 R2 R3 L12 L21 EQ L23 L13 P12 P21 S12  P23 P13
        · rw [Bool.eq_false_iff.2 f4] at P23; exact line_main_ba x.kind y.kind z.kind x.int y.int z.int x.real y.real z.real x.text y.text z.text a b c n m o ca cb cc l k j w hT hv1 hv2 hv3 K1 K2 K3 R1 R2 R3 L12 L21 EQ L23 L13 P12 P21 S12  P23
      · rw [f1] at P12; rw [f2] at P21; rw [f3] at S12; exact line_main_bc x.kind y.kind z.kind x.int y.int z.int x.real y.real z.real x.text y.text z.text a b c n m o ca cb cc l k j w hT hv1 hv2 hv3 K1 K2 K3 R1 R2 R3 L12 L21 EQ L23 L13 P12 P21 S12 
      · rw [f1] at P12; rw [f2] at P21; rw [f3] at S12; exact line_main_bd x.kind y.kind z.kind x.int y.int z.int x.real y.real z.real x.text y.text z.text a b c n m o ca cb cc l k j w hT hv1 hv2 hv3 K1 K2 K3 R1 R2 R3 L12 L21 EQ L23 L13 P12 P21 S12 
    · rw [Bool.eq_false_iff.2 e4] at L23
      rcases OR with ⟨f1, f2, f3⟩ | ⟨f1, f2, f3⟩ | ⟨f1, f2, f3⟩
      · rw [f1] at P12; rw [f2] at P21; rw [f3] at S12
        by_cases f4 : rowLess k j = true
        · rw [TRR f1 f4] at P13; rw [f4] at P23; exact line_main_ab x.kind y.kind z.kind x.int y.int z.int x.real y.real z.real x.text y.text z.text a b c n m o ca cb cc l k j w hT hv1 hv2 hv3 K1 K2 K3 R1 R2 R3 L12 L21 EQ L23 P12 P21 S12  P23 P13
        · rw [Bool.eq_false_iff.2 f4] at P23; exact line_main_aa x.kind y.kind z.kind x.int y.int z.int x.real y.real z.real x.text y.text z.text a b c n m o ca cb cc l k j w hT hv1 hv2 hv3 K1 K2 K3 R1 R2 R3 L12 L21 EQ L23 P12 P21 S12  P23
      · rw [f1] at P12; rw [f2] at P21; rw [f3] at S12; exact line_main_ac x.kind y.kind z.kind x.int y.int z.int x.real y.real z.real x.text y.text z.text a b c n m o ca cb cc l k j w hT hv1 hv2 hv3 K1 K2 K3 R1 R2 R3 L12 L21 EQ L23 P12 P21 S12 
      · rw [f1] at P12; rw [f2] at P21; rw [f3] at S12; exact line_main_ad x.kind y.kind z.kind x.int y.int z.int x.real y.real z.real x.text y.text z.text a b c n m o ca cb cc l k j w hT hv1 hv2 hv3 K1 K2 K3 R1 R2 R3 L12 L21 EQ L23 P12 P21 S12 
  · rw [e1] at L12; rw [e2] at L21; rw [e3] at EQ
    rcases OR with ⟨f1, f2, f3⟩ | ⟨f1, f2, f3⟩ | ⟨f1, f2, f3⟩
    · rw [f1] at P12; rw [f2] at P21; rw [f3] at S12
      by_cases f4 : rowLess k j = true
      · rw [TRR f1 f4] at P13; rw [f4] at P23; exact line_main_cb x.kind y.kind z.kind x.int y.int z.int x.real y.real z.real x.text y.text z.text a b c n m o ca cb cc l k j w hT hv1 hv2 hv3 K1 K2 K3 R1 R2 R3 L12 L21 EQ  P12 P21 S12  P23 P13
      · rw [Bool.eq_false_iff.2 f4] at P23; exact line_main_ca x.kind y.kind z.kind x.int y.int z.int x.real y.real z.real x.text y.text z.text a b c n m o ca cb cc l k j w hT hv1 hv2 hv3 K1 K2 K3 R1 R2 R3 L12 L21 EQ  P12 P21 S12  P23
    · rw [f1] at P12; rw [f2] at P21; rw [f3] at S12; exact line_main_cc x.kind y.kind z.kind x.int y.int z.int x.real y.real z.real x.text y.text z.text a b c n m o ca cb cc l k j w hT hv1 hv2 hv3 K1 K2 K3 R1 R2 R3 L12 L21 EQ  P12 P21 S12 
    · rw [f1] at P12; rw [f2] at P21; rw [f3] at S12; exact line_main_cd x.kind y.kind z.kind x.int y.int z.int x.real y.real z.real x.text y.text z.text a b c n m o ca cb cc l k j w hT hv1 hv2 hv3 K1 K2 K3 R1 R2 R3 L12 L21 EQ  P12 P21 S12 
  · rw [e1] at L12; rw [e2] at L21; rw [e3] at EQ
    rcases OR with ⟨f1, f2, f3⟩ | ⟨f1, f2, f3⟩ | ⟨f1, f2, f3⟩
    · rw [f1] at P12; rw [f2] at P21; rw [f3] at S12
      by_cases f4 : rowLess k j = true
      · rw [TRR f1 f4] at P13; rw [f4] at P23; exact line_main_db x.kind y.kind z.kind x.int y.int z.int x.real y.real z.real x.text y.text z.text a b c n m o ca cb cc l k j w hT hv1 hv2 hv3 K1 K2 K3 R1 R2 R3 L12 L21 EQ  P12 P21 S12  P23 P13
      · rw [Bool.eq_false_iff.2 f4] at P23; exact line_main_da x.kind y.kind z.kind x.int y.int z.int x.real y.real z.real x.text y.text z.text a b c n m o ca cb cc l k j w hT hv1 hv2 hv3 K1 K2 K3 R1 R2 R3 L12 L21 EQ  P12 P21 S12  P23
    · rw [f1] at P12; rw [f2] at P21; rw [f3] at S12; exact line_main_dc x.kind y.kind z.kind x.int y.int z.int x.real y.real z.real x.text y.text z.text a b c n m o ca cb cc l k j w hT hv1 hv2 hv3 K1 K2 K3 R1 R2 R3 L12 L21 EQ  P12 P21 S12 
    · rw [f1] at P12; rw [f2] at P21; rw [f3] at S12; exact line_main_dd x.kind y.kind z.kind x.int y.int z.int x.real y.real z.real x.text y.text z.text a b c n m o ca cb cc l k j w hT hv1 hv2 hv3 K1 K2 K3 R1 R2 R3 L12 L21 EQ  P12 P21 S12 
end Go.Proofs.YtafialodjnjihaaDoor
