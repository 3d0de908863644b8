/- RealOrder: of any two just one stands ahead, keys rise as bits stand, numbers stand as they are compared. The walk of the law. Condition: the numbers fit their kinds. -/
import Derived.Test.YtafialodjnjihaaAlive03
import Derived.Test.YtafialodjnjihaaNums
namespace Go.Proofs.Ytafialodjnjihaa
open Go Go.RowKit
set_option maxRecDepth 100000
set_option linter.unusedVariables false

theorem order_self_eq (x : Nat) : (FloatKind.f64.format.order x x == some .eq) = !Rl.nan x := by
  have h := Rl.order_self x
  show (Ieee.double.order x x == some .eq) = _
  rw [← h]
  cases Ieee.double.order x x with
  | none => rfl
  | some v => cases v <;> rfl
theorem order_self_ne (x : Nat) : (FloatKind.f64.format.order x x != some .eq) = Rl.nan x := Rl.order_self x
theorem order_zero (x : Nat) (h : Rl.nan x = false) : (FloatKind.f64.format.order x 0 != some .eq) = decide (x % 9223372036854775808 ≠ 0) := by
  show (Ieee.double.order x 0 != some .eq) = _
  rw [Rl.order_eq h (by decide)]
  have h0 : Rl.S 0 = 0 := by decide +kernel
  rw [h0]
  by_cases hz : x % 9223372036854775808 = 0
  · rw [Rl.S_zero_iff.2 hz, Rl.cmp_eq]; simp [hz]
  · have hs : Rl.S x ≠ 0 := fun e => hz (Rl.S_zero_iff.1 e)
    rcases Int.lt_or_gt_of_ne hs with h1 | h1
    · rw [Rl.cmp_lt h1]; simp [hz]
    · rw [Rl.cmp_gt h1]; simp [hz]
theorem order_lt (x y : Nat) (hx : Rl.nan x = false) (hy : Rl.nan y = false) (lx : x < 18446744073709551616) (ly : y < 18446744073709551616) (hz : ¬ (x % 9223372036854775808 = 0 ∧ y % 9223372036854775808 = 0)) :
    (FloatKind.f64.format.order x y == some .lt) = decide (Rl.key x < Rl.key y) := by
  show (Ieee.double.order x y == some .lt) = _
  rw [Rl.order_eq hx hy]
  unfold Rl.key
  rw [Rl.canon_of hx, Rl.canon_of hy]
  have h := Rl.S_lt_iff lx ly (by rw [Rl.S_zero_iff, Rl.S_zero_iff]; exact hz)
  by_cases hk : Rl.keyOf x < Rl.keyOf y
  · rw [Rl.cmp_lt (h.2 hk)]; simp [hk]
  · have hn : ¬ Rl.S x < Rl.S y := fun e => hk (h.1 e)
    rcases Int.lt_trichotomy (Rl.S x) (Rl.S y) with h1 | h1 | h1
    · exact absurd h1 hn
    · rw [Rl.cmp_eq' h1]; simp [hk]
    · rw [Rl.cmp_gt h1]; simp [hk]

set_option maxHeartbeats 2000000 in
theorem ro_11_eq (a b c ca cb ka kb : Nat) (w : World) (h1 : ∀ w, Calls Try.prog 33 #[.int .u64 a, .int .u64 b] w fun e w' => e = .returned (.bool false) ∧ w = w')
    (h2 : ∀ w, Calls Try.prog 33 #[.int .u64 b, .int .u64 a] w fun e w' => e = .returned (.bool false) ∧ w = w')
    (h3 : ∀ w, Calls Try.prog 31 #[.int .u64 a] w fun e w' => e = .returned (.int .u64 ca) ∧ w = w') (h4 : ∀ w, Calls Try.prog 31 #[.int .u64 b] w fun e w' => e = .returned (.int .u64 cb) ∧ w = w')
    (h5 : ∀ w, Calls Try.prog 35 #[.int .u64 a] w fun e w' => e = .returned (.int .u64 ka) ∧ w = w') (h6 : ∀ w, Calls Try.prog 35 #[.int .u64 b] w fun e w' => e = .returned (.int .u64 kb) ∧ w = w')
    
    (hc : ((ca : Int) == (cb : Int)) = true) (hk : decide (ka < kb) = false) (g1 : (FloatKind.f64.format.order a a == some .eq) = false) (g2 : (FloatKind.f64.format.order b b == some .eq) = false) (g1' : (FloatKind.f64.format.order a a != some .eq) = true) (g2' : (FloatKind.f64.format.order b b != some .eq) = true) :
    Calls Try.prog 7 #[.int .u64 a, .int .u64 b, .int .u64 c] w fun e w' => e = .returned (.bool true) ∧ Below w.heap.size w w' := by
  have fb1 := fun w => frombits a w
  have fb2 := fun w => frombits b w
  have H1 := Lib.hid h1; clear h1
  have H2 := Lib.hid h2; clear h2
  have H3 := Lib.hid h3; clear h3
  have H4 := Lib.hid h4; clear h4
  have H5 := Lib.hid h5; clear h5
  have H6 := Lib.hid h6; clear h6
  have B0 := Lib.hid (Below.refl w.heap.size w)
  go_enter Try.func7, Try.ntmps7
  go_wp2_with fail
  refine (H1.out _).mono ?_
  rintro e w1 ⟨rfl, rfl⟩
  go_wp2_with fail
  refine (H2.out _).mono ?_
  rintro e w2 ⟨rfl, rfl⟩
  go_wp2_with fail
  refine (H3.out _).mono ?_
  rintro e w3 ⟨rfl, rfl⟩
  go_wp2_with fail
  refine (H4.out _).mono ?_
  rintro e w4 ⟨rfl, rfl⟩
  go_wp2_with fail
  refine (H5.out _).mono ?_
  rintro e w5 ⟨rfl, rfl⟩
  go_wp2_with fail
  refine (H6.out _).mono ?_
  rintro e w6 ⟨rfl, rfl⟩
  go_wp2_with fail
  refine (alive03 _).mono ?_
  rintro e w7 ⟨rfl, hb⟩
  have B7 := Lib.hid (B0.out.trans (hb.mono B0.out.size))
  clear hb B0
  go_wp2_with fail
  go_ret
  exact ⟨rfl, B7.out⟩

set_option maxHeartbeats 2000000 in
theorem ro_10_gt (a b c ca cb ka kb : Nat) (w : World) (h1 : ∀ w, Calls Try.prog 33 #[.int .u64 a, .int .u64 b] w fun e w' => e = .returned (.bool false) ∧ w = w')
    (h2 : ∀ w, Calls Try.prog 33 #[.int .u64 b, .int .u64 a] w fun e w' => e = .returned (.bool true) ∧ w = w')
    (h3 : ∀ w, Calls Try.prog 31 #[.int .u64 a] w fun e w' => e = .returned (.int .u64 ca) ∧ w = w') (h4 : ∀ w, Calls Try.prog 31 #[.int .u64 b] w fun e w' => e = .returned (.int .u64 cb) ∧ w = w')
    (h5 : ∀ w, Calls Try.prog 35 #[.int .u64 a] w fun e w' => e = .returned (.int .u64 ka) ∧ w = w') (h6 : ∀ w, Calls Try.prog 35 #[.int .u64 b] w fun e w' => e = .returned (.int .u64 kb) ∧ w = w')
    
    (hc : ((ca : Int) == (cb : Int)) = false) (hk : decide (ka < kb) = false) (g1 : (FloatKind.f64.format.order a a == some .eq) = false) (g2 : (FloatKind.f64.format.order b b == some .eq) = true) (g1' : (FloatKind.f64.format.order a a != some .eq) = true) (g2' : (FloatKind.f64.format.order b b != some .eq) = false) :
    Calls Try.prog 7 #[.int .u64 a, .int .u64 b, .int .u64 c] w fun e w' => e = .returned (.bool true) ∧ Below w.heap.size w w' := by
  have fb1 := fun w => frombits a w
  have fb2 := fun w => frombits b w
  have H1 := Lib.hid h1; clear h1
  have H2 := Lib.hid h2; clear h2
  have H3 := Lib.hid h3; clear h3
  have H4 := Lib.hid h4; clear h4
  have H5 := Lib.hid h5; clear h5
  have H6 := Lib.hid h6; clear h6
  have B0 := Lib.hid (Below.refl w.heap.size w)
  go_enter Try.func7, Try.ntmps7
  go_wp2_with fail
  refine (H1.out _).mono ?_
  rintro e w1 ⟨rfl, rfl⟩
  go_wp2_with fail
  refine (H2.out _).mono ?_
  rintro e w2 ⟨rfl, rfl⟩
  go_wp2_with fail
  refine (H3.out _).mono ?_
  rintro e w3 ⟨rfl, rfl⟩
  go_wp2_with fail
  refine (H4.out _).mono ?_
  rintro e w4 ⟨rfl, rfl⟩
  go_wp2_with fail
  refine (H5.out _).mono ?_
  rintro e w5 ⟨rfl, rfl⟩
  go_wp2_with fail
  refine (H6.out _).mono ?_
  rintro e w6 ⟨rfl, rfl⟩
  go_wp2_with fail
  refine (alive03 _).mono ?_
  rintro e w7 ⟨rfl, hb⟩
  have B7 := Lib.hid (B0.out.trans (hb.mono B0.out.size))
  clear hb B0
  go_wp2_with fail
  go_ret
  exact ⟨rfl, B7.out⟩

set_option maxHeartbeats 2000000 in
theorem ro_01_lt1 (a b c ca cb ka kb : Nat) (w : World) (h1 : ∀ w, Calls Try.prog 33 #[.int .u64 a, .int .u64 b] w fun e w' => e = .returned (.bool true) ∧ w = w')
    (h2 : ∀ w, Calls Try.prog 33 #[.int .u64 b, .int .u64 a] w fun e w' => e = .returned (.bool false) ∧ w = w')
    (h3 : ∀ w, Calls Try.prog 31 #[.int .u64 a] w fun e w' => e = .returned (.int .u64 ca) ∧ w = w') (h4 : ∀ w, Calls Try.prog 31 #[.int .u64 b] w fun e w' => e = .returned (.int .u64 cb) ∧ w = w')
    (h5 : ∀ w, Calls Try.prog 35 #[.int .u64 a] w fun e w' => e = .returned (.int .u64 ka) ∧ w = w') (h6 : ∀ w, Calls Try.prog 35 #[.int .u64 b] w fun e w' => e = .returned (.int .u64 kb) ∧ w = w')
    (h7 : ∀ w, Calls Try.prog 33 #[.int .u64 b, .int .u64 c] w fun e w' => e = .returned (.bool true) ∧ w = w')(h8 : ∀ w, Calls Try.prog 33 #[.int .u64 a, .int .u64 c] w fun e w' => e = .returned (.bool true) ∧ w = w')
    (hc : ((ca : Int) == (cb : Int)) = false) (hk : decide (ka < kb) = true) (g1 : (FloatKind.f64.format.order a a == some .eq) = true) (g2 : (FloatKind.f64.format.order b b == some .eq) = false) (g1' : (FloatKind.f64.format.order a a != some .eq) = false) (g2' : (FloatKind.f64.format.order b b != some .eq) = true) :
    Calls Try.prog 7 #[.int .u64 a, .int .u64 b, .int .u64 c] w fun e w' => e = .returned (.bool true) ∧ Below w.heap.size w w' := by
  have fb1 := fun w => frombits a w
  have fb2 := fun w => frombits b w
  have H1 := Lib.hid h1; clear h1
  have H2 := Lib.hid h2; clear h2
  have H3 := Lib.hid h3; clear h3
  have H4 := Lib.hid h4; clear h4
  have H5 := Lib.hid h5; clear h5
  have H6 := Lib.hid h6; clear h6
  have H7 := Lib.hid h7; clear h7
  have H8 := Lib.hid h8; clear h8
  have B0 := Lib.hid (Below.refl w.heap.size w)
  go_enter Try.func7, Try.ntmps7
  go_wp2_with fail
  refine (H1.out _).mono ?_
  rintro e w1 ⟨rfl, rfl⟩
  go_wp2_with fail
  refine (H2.out _).mono ?_
  rintro e w2 ⟨rfl, rfl⟩
  go_wp2_with fail
  refine (H3.out _).mono ?_
  rintro e w3 ⟨rfl, rfl⟩
  go_wp2_with fail
  refine (H4.out _).mono ?_
  rintro e w4 ⟨rfl, rfl⟩
  go_wp2_with fail
  refine (H5.out _).mono ?_
  rintro e w5 ⟨rfl, rfl⟩
  go_wp2_with fail
  refine (H6.out _).mono ?_
  rintro e w6 ⟨rfl, rfl⟩
  go_wp2_with fail
  refine (H7.out _).mono ?_
  rintro e w7 ⟨rfl, rfl⟩
  go_wp2_with fail
  refine (H8.out _).mono ?_
  rintro e w8 ⟨rfl, rfl⟩
  go_wp2_with fail
  refine (alive03 _).mono ?_
  rintro e w9 ⟨rfl, hb⟩
  have B9 := Lib.hid (B0.out.trans (hb.mono B0.out.size))
  clear hb B0
  go_wp2_with fail
  go_ret
  exact ⟨rfl, B9.out⟩

set_option maxHeartbeats 2000000 in
theorem ro_01_lt0 (a b c ca cb ka kb : Nat) (w : World) (h1 : ∀ w, Calls Try.prog 33 #[.int .u64 a, .int .u64 b] w fun e w' => e = .returned (.bool true) ∧ w = w')
    (h2 : ∀ w, Calls Try.prog 33 #[.int .u64 b, .int .u64 a] w fun e w' => e = .returned (.bool false) ∧ w = w')
    (h3 : ∀ w, Calls Try.prog 31 #[.int .u64 a] w fun e w' => e = .returned (.int .u64 ca) ∧ w = w') (h4 : ∀ w, Calls Try.prog 31 #[.int .u64 b] w fun e w' => e = .returned (.int .u64 cb) ∧ w = w')
    (h5 : ∀ w, Calls Try.prog 35 #[.int .u64 a] w fun e w' => e = .returned (.int .u64 ka) ∧ w = w') (h6 : ∀ w, Calls Try.prog 35 #[.int .u64 b] w fun e w' => e = .returned (.int .u64 kb) ∧ w = w')
    (h7 : ∀ w, Calls Try.prog 33 #[.int .u64 b, .int .u64 c] w fun e w' => e = .returned (.bool false) ∧ w = w')
    (hc : ((ca : Int) == (cb : Int)) = false) (hk : decide (ka < kb) = true) (g1 : (FloatKind.f64.format.order a a == some .eq) = true) (g2 : (FloatKind.f64.format.order b b == some .eq) = false) (g1' : (FloatKind.f64.format.order a a != some .eq) = false) (g2' : (FloatKind.f64.format.order b b != some .eq) = true) :
    Calls Try.prog 7 #[.int .u64 a, .int .u64 b, .int .u64 c] w fun e w' => e = .returned (.bool true) ∧ Below w.heap.size w w' := by
  have fb1 := fun w => frombits a w
  have fb2 := fun w => frombits b w
  have H1 := Lib.hid h1; clear h1
  have H2 := Lib.hid h2; clear h2
  have H3 := Lib.hid h3; clear h3
  have H4 := Lib.hid h4; clear h4
  have H5 := Lib.hid h5; clear h5
  have H6 := Lib.hid h6; clear h6
  have H7 := Lib.hid h7; clear h7
  have B0 := Lib.hid (Below.refl w.heap.size w)
  go_enter Try.func7, Try.ntmps7
  go_wp2_with fail
  refine (H1.out _).mono ?_
  rintro e w1 ⟨rfl, rfl⟩
  go_wp2_with fail
  refine (H2.out _).mono ?_
  rintro e w2 ⟨rfl, rfl⟩
  go_wp2_with fail
  refine (H3.out _).mono ?_
  rintro e w3 ⟨rfl, rfl⟩
  go_wp2_with fail
  refine (H4.out _).mono ?_
  rintro e w4 ⟨rfl, rfl⟩
  go_wp2_with fail
  refine (H5.out _).mono ?_
  rintro e w5 ⟨rfl, rfl⟩
  go_wp2_with fail
  refine (H6.out _).mono ?_
  rintro e w6 ⟨rfl, rfl⟩
  go_wp2_with fail
  refine (H7.out _).mono ?_
  rintro e w7 ⟨rfl, rfl⟩
  go_wp2_with fail
  refine (alive03 _).mono ?_
  rintro e w8 ⟨rfl, hb⟩
  have B8 := Lib.hid (B0.out.trans (hb.mono B0.out.size))
  clear hb B0
  go_wp2_with fail
  go_ret
  exact ⟨rfl, B8.out⟩

set_option maxHeartbeats 2000000 in
theorem ro_00x_lt1 (a b c ca cb ka kb : Nat) (w : World) (h1 : ∀ w, Calls Try.prog 33 #[.int .u64 a, .int .u64 b] w fun e w' => e = .returned (.bool true) ∧ w = w')
    (h2 : ∀ w, Calls Try.prog 33 #[.int .u64 b, .int .u64 a] w fun e w' => e = .returned (.bool false) ∧ w = w')
    (h3 : ∀ w, Calls Try.prog 31 #[.int .u64 a] w fun e w' => e = .returned (.int .u64 ca) ∧ w = w') (h4 : ∀ w, Calls Try.prog 31 #[.int .u64 b] w fun e w' => e = .returned (.int .u64 cb) ∧ w = w')
    (h5 : ∀ w, Calls Try.prog 35 #[.int .u64 a] w fun e w' => e = .returned (.int .u64 ka) ∧ w = w') (h6 : ∀ w, Calls Try.prog 35 #[.int .u64 b] w fun e w' => e = .returned (.int .u64 kb) ∧ w = w')
    (h7 : ∀ w, Calls Try.prog 33 #[.int .u64 b, .int .u64 c] w fun e w' => e = .returned (.bool true) ∧ w = w')(h8 : ∀ w, Calls Try.prog 33 #[.int .u64 a, .int .u64 c] w fun e w' => e = .returned (.bool true) ∧ w = w')
    (hc : ((ca : Int) == (cb : Int)) = false) (hk : decide (ka < kb) = true) (g1 : (FloatKind.f64.format.order a a == some .eq) = true) (g2 : (FloatKind.f64.format.order b b == some .eq) = true) (g1' : (FloatKind.f64.format.order a a != some .eq) = false) (g2' : (FloatKind.f64.format.order b b != some .eq) = false) (g3 : (FloatKind.f64.format.order a 0 != some .eq) = true) (g5 : (FloatKind.f64.format.order a b == some .lt) = true) :
    Calls Try.prog 7 #[.int .u64 a, .int .u64 b, .int .u64 c] w fun e w' => e = .returned (.bool true) ∧ Below w.heap.size w w' := by
  have fb1 := fun w => frombits a w
  have fb2 := fun w => frombits b w
  have H1 := Lib.hid h1; clear h1
  have H2 := Lib.hid h2; clear h2
  have H3 := Lib.hid h3; clear h3
  have H4 := Lib.hid h4; clear h4
  have H5 := Lib.hid h5; clear h5
  have H6 := Lib.hid h6; clear h6
  have H7 := Lib.hid h7; clear h7
  have H8 := Lib.hid h8; clear h8
  have B0 := Lib.hid (Below.refl w.heap.size w)
  go_enter Try.func7, Try.ntmps7
  go_wp2_with fail
  refine (H1.out _).mono ?_
  rintro e w1 ⟨rfl, rfl⟩
  go_wp2_with fail
  refine (H2.out _).mono ?_
  rintro e w2 ⟨rfl, rfl⟩
  go_wp2_with fail
  refine (H3.out _).mono ?_
  rintro e w3 ⟨rfl, rfl⟩
  go_wp2_with fail
  refine (H4.out _).mono ?_
  rintro e w4 ⟨rfl, rfl⟩
  go_wp2_with fail
  refine (H5.out _).mono ?_
  rintro e w5 ⟨rfl, rfl⟩
  go_wp2_with fail
  refine (H6.out _).mono ?_
  rintro e w6 ⟨rfl, rfl⟩
  go_wp2_with fail
  refine (H7.out _).mono ?_
  rintro e w7 ⟨rfl, rfl⟩
  go_wp2_with fail
  refine (H8.out _).mono ?_
  rintro e w8 ⟨rfl, rfl⟩
  go_wp2_with fail
  refine (alive03 _).mono ?_
  rintro e w9 ⟨rfl, hb⟩
  have B9 := Lib.hid (B0.out.trans (hb.mono B0.out.size))
  clear hb B0
  go_wp2_with fail
  go_ret
  exact ⟨rfl, B9.out⟩

set_option maxHeartbeats 2000000 in
theorem ro_00x_lt0 (a b c ca cb ka kb : Nat) (w : World) (h1 : ∀ w, Calls Try.prog 33 #[.int .u64 a, .int .u64 b] w fun e w' => e = .returned (.bool true) ∧ w = w')
    (h2 : ∀ w, Calls Try.prog 33 #[.int .u64 b, .int .u64 a] w fun e w' => e = .returned (.bool false) ∧ w = w')
    (h3 : ∀ w, Calls Try.prog 31 #[.int .u64 a] w fun e w' => e = .returned (.int .u64 ca) ∧ w = w') (h4 : ∀ w, Calls Try.prog 31 #[.int .u64 b] w fun e w' => e = .returned (.int .u64 cb) ∧ w = w')
    (h5 : ∀ w, Calls Try.prog 35 #[.int .u64 a] w fun e w' => e = .returned (.int .u64 ka) ∧ w = w') (h6 : ∀ w, Calls Try.prog 35 #[.int .u64 b] w fun e w' => e = .returned (.int .u64 kb) ∧ w = w')
    (h7 : ∀ w, Calls Try.prog 33 #[.int .u64 b, .int .u64 c] w fun e w' => e = .returned (.bool false) ∧ w = w')
    (hc : ((ca : Int) == (cb : Int)) = false) (hk : decide (ka < kb) = true) (g1 : (FloatKind.f64.format.order a a == some .eq) = true) (g2 : (FloatKind.f64.format.order b b == some .eq) = true) (g1' : (FloatKind.f64.format.order a a != some .eq) = false) (g2' : (FloatKind.f64.format.order b b != some .eq) = false) (g3 : (FloatKind.f64.format.order a 0 != some .eq) = true) (g5 : (FloatKind.f64.format.order a b == some .lt) = true) :
    Calls Try.prog 7 #[.int .u64 a, .int .u64 b, .int .u64 c] w fun e w' => e = .returned (.bool true) ∧ Below w.heap.size w w' := by
  have fb1 := fun w => frombits a w
  have fb2 := fun w => frombits b w
  have H1 := Lib.hid h1; clear h1
  have H2 := Lib.hid h2; clear h2
  have H3 := Lib.hid h3; clear h3
  have H4 := Lib.hid h4; clear h4
  have H5 := Lib.hid h5; clear h5
  have H6 := Lib.hid h6; clear h6
  have H7 := Lib.hid h7; clear h7
  have B0 := Lib.hid (Below.refl w.heap.size w)
  go_enter Try.func7, Try.ntmps7
  go_wp2_with fail
  refine (H1.out _).mono ?_
  rintro e w1 ⟨rfl, rfl⟩
  go_wp2_with fail
  refine (H2.out _).mono ?_
  rintro e w2 ⟨rfl, rfl⟩
  go_wp2_with fail
  refine (H3.out _).mono ?_
  rintro e w3 ⟨rfl, rfl⟩
  go_wp2_with fail
  refine (H4.out _).mono ?_
  rintro e w4 ⟨rfl, rfl⟩
  go_wp2_with fail
  refine (H5.out _).mono ?_
  rintro e w5 ⟨rfl, rfl⟩
  go_wp2_with fail
  refine (H6.out _).mono ?_
  rintro e w6 ⟨rfl, rfl⟩
  go_wp2_with fail
  refine (H7.out _).mono ?_
  rintro e w7 ⟨rfl, rfl⟩
  go_wp2_with fail
  refine (alive03 _).mono ?_
  rintro e w8 ⟨rfl, hb⟩
  have B8 := Lib.hid (B0.out.trans (hb.mono B0.out.size))
  clear hb B0
  go_wp2_with fail
  go_ret
  exact ⟨rfl, B8.out⟩

set_option maxHeartbeats 2000000 in
theorem ro_00x_gt (a b c ca cb ka kb : Nat) (w : World) (h1 : ∀ w, Calls Try.prog 33 #[.int .u64 a, .int .u64 b] w fun e w' => e = .returned (.bool false) ∧ w = w')
    (h2 : ∀ w, Calls Try.prog 33 #[.int .u64 b, .int .u64 a] w fun e w' => e = .returned (.bool true) ∧ w = w')
    (h3 : ∀ w, Calls Try.prog 31 #[.int .u64 a] w fun e w' => e = .returned (.int .u64 ca) ∧ w = w') (h4 : ∀ w, Calls Try.prog 31 #[.int .u64 b] w fun e w' => e = .returned (.int .u64 cb) ∧ w = w')
    (h5 : ∀ w, Calls Try.prog 35 #[.int .u64 a] w fun e w' => e = .returned (.int .u64 ka) ∧ w = w') (h6 : ∀ w, Calls Try.prog 35 #[.int .u64 b] w fun e w' => e = .returned (.int .u64 kb) ∧ w = w')
    
    (hc : ((ca : Int) == (cb : Int)) = false) (hk : decide (ka < kb) = false) (g1 : (FloatKind.f64.format.order a a == some .eq) = true) (g2 : (FloatKind.f64.format.order b b == some .eq) = true) (g1' : (FloatKind.f64.format.order a a != some .eq) = false) (g2' : (FloatKind.f64.format.order b b != some .eq) = false) (g3 : (FloatKind.f64.format.order a 0 != some .eq) = true) (g5 : (FloatKind.f64.format.order a b == some .lt) = false) :
    Calls Try.prog 7 #[.int .u64 a, .int .u64 b, .int .u64 c] w fun e w' => e = .returned (.bool true) ∧ Below w.heap.size w w' := by
  have fb1 := fun w => frombits a w
  have fb2 := fun w => frombits b w
  have H1 := Lib.hid h1; clear h1
  have H2 := Lib.hid h2; clear h2
  have H3 := Lib.hid h3; clear h3
  have H4 := Lib.hid h4; clear h4
  have H5 := Lib.hid h5; clear h5
  have H6 := Lib.hid h6; clear h6
  have B0 := Lib.hid (Below.refl w.heap.size w)
  go_enter Try.func7, Try.ntmps7
  go_wp2_with fail
  refine (H1.out _).mono ?_
  rintro e w1 ⟨rfl, rfl⟩
  go_wp2_with fail
  refine (H2.out _).mono ?_
  rintro e w2 ⟨rfl, rfl⟩
  go_wp2_with fail
  refine (H3.out _).mono ?_
  rintro e w3 ⟨rfl, rfl⟩
  go_wp2_with fail
  refine (H4.out _).mono ?_
  rintro e w4 ⟨rfl, rfl⟩
  go_wp2_with fail
  refine (H5.out _).mono ?_
  rintro e w5 ⟨rfl, rfl⟩
  go_wp2_with fail
  refine (H6.out _).mono ?_
  rintro e w6 ⟨rfl, rfl⟩
  go_wp2_with fail
  refine (alive03 _).mono ?_
  rintro e w7 ⟨rfl, hb⟩
  have B7 := Lib.hid (B0.out.trans (hb.mono B0.out.size))
  clear hb B0
  go_wp2_with fail
  go_ret
  exact ⟨rfl, B7.out⟩

set_option maxHeartbeats 2000000 in
theorem ro_00x_eq (a b c ca cb ka kb : Nat) (w : World) (h1 : ∀ w, Calls Try.prog 33 #[.int .u64 a, .int .u64 b] w fun e w' => e = .returned (.bool false) ∧ w = w')
    (h2 : ∀ w, Calls Try.prog 33 #[.int .u64 b, .int .u64 a] w fun e w' => e = .returned (.bool false) ∧ w = w')
    (h3 : ∀ w, Calls Try.prog 31 #[.int .u64 a] w fun e w' => e = .returned (.int .u64 ca) ∧ w = w') (h4 : ∀ w, Calls Try.prog 31 #[.int .u64 b] w fun e w' => e = .returned (.int .u64 cb) ∧ w = w')
    (h5 : ∀ w, Calls Try.prog 35 #[.int .u64 a] w fun e w' => e = .returned (.int .u64 ka) ∧ w = w') (h6 : ∀ w, Calls Try.prog 35 #[.int .u64 b] w fun e w' => e = .returned (.int .u64 kb) ∧ w = w')
    
    (hc : ((ca : Int) == (cb : Int)) = true) (hk : decide (ka < kb) = false) (g1 : (FloatKind.f64.format.order a a == some .eq) = true) (g2 : (FloatKind.f64.format.order b b == some .eq) = true) (g1' : (FloatKind.f64.format.order a a != some .eq) = false) (g2' : (FloatKind.f64.format.order b b != some .eq) = false) (g3 : (FloatKind.f64.format.order a 0 != some .eq) = true) (g5 : (FloatKind.f64.format.order a b == some .lt) = false) :
    Calls Try.prog 7 #[.int .u64 a, .int .u64 b, .int .u64 c] w fun e w' => e = .returned (.bool true) ∧ Below w.heap.size w w' := by
  have fb1 := fun w => frombits a w
  have fb2 := fun w => frombits b w
  have H1 := Lib.hid h1; clear h1
  have H2 := Lib.hid h2; clear h2
  have H3 := Lib.hid h3; clear h3
  have H4 := Lib.hid h4; clear h4
  have H5 := Lib.hid h5; clear h5
  have H6 := Lib.hid h6; clear h6
  have B0 := Lib.hid (Below.refl w.heap.size w)
  go_enter Try.func7, Try.ntmps7
  go_wp2_with fail
  refine (H1.out _).mono ?_
  rintro e w1 ⟨rfl, rfl⟩
  go_wp2_with fail
  refine (H2.out _).mono ?_
  rintro e w2 ⟨rfl, rfl⟩
  go_wp2_with fail
  refine (H3.out _).mono ?_
  rintro e w3 ⟨rfl, rfl⟩
  go_wp2_with fail
  refine (H4.out _).mono ?_
  rintro e w4 ⟨rfl, rfl⟩
  go_wp2_with fail
  refine (H5.out _).mono ?_
  rintro e w5 ⟨rfl, rfl⟩
  go_wp2_with fail
  refine (H6.out _).mono ?_
  rintro e w6 ⟨rfl, rfl⟩
  go_wp2_with fail
  refine (alive03 _).mono ?_
  rintro e w7 ⟨rfl, hb⟩
  have B7 := Lib.hid (B0.out.trans (hb.mono B0.out.size))
  clear hb B0
  go_wp2_with fail
  go_ret
  exact ⟨rfl, B7.out⟩

set_option maxHeartbeats 2000000 in
theorem ro_00y_lt1 (a b c ca cb ka kb : Nat) (w : World) (h1 : ∀ w, Calls Try.prog 33 #[.int .u64 a, .int .u64 b] w fun e w' => e = .returned (.bool true) ∧ w = w')
    (h2 : ∀ w, Calls Try.prog 33 #[.int .u64 b, .int .u64 a] w fun e w' => e = .returned (.bool false) ∧ w = w')
    (h3 : ∀ w, Calls Try.prog 31 #[.int .u64 a] w fun e w' => e = .returned (.int .u64 ca) ∧ w = w') (h4 : ∀ w, Calls Try.prog 31 #[.int .u64 b] w fun e w' => e = .returned (.int .u64 cb) ∧ w = w')
    (h5 : ∀ w, Calls Try.prog 35 #[.int .u64 a] w fun e w' => e = .returned (.int .u64 ka) ∧ w = w') (h6 : ∀ w, Calls Try.prog 35 #[.int .u64 b] w fun e w' => e = .returned (.int .u64 kb) ∧ w = w')
    (h7 : ∀ w, Calls Try.prog 33 #[.int .u64 b, .int .u64 c] w fun e w' => e = .returned (.bool true) ∧ w = w')(h8 : ∀ w, Calls Try.prog 33 #[.int .u64 a, .int .u64 c] w fun e w' => e = .returned (.bool true) ∧ w = w')
    (hc : ((ca : Int) == (cb : Int)) = false) (hk : decide (ka < kb) = true) (g1 : (FloatKind.f64.format.order a a == some .eq) = true) (g2 : (FloatKind.f64.format.order b b == some .eq) = true) (g1' : (FloatKind.f64.format.order a a != some .eq) = false) (g2' : (FloatKind.f64.format.order b b != some .eq) = false) (g3 : (FloatKind.f64.format.order a 0 != some .eq) = false) (g4 : (FloatKind.f64.format.order b 0 != some .eq) = true) (g5 : (FloatKind.f64.format.order a b == some .lt) = true) :
    Calls Try.prog 7 #[.int .u64 a, .int .u64 b, .int .u64 c] w fun e w' => e = .returned (.bool true) ∧ Below w.heap.size w w' := by
  have fb1 := fun w => frombits a w
  have fb2 := fun w => frombits b w
  have H1 := Lib.hid h1; clear h1
  have H2 := Lib.hid h2; clear h2
  have H3 := Lib.hid h3; clear h3
  have H4 := Lib.hid h4; clear h4
  have H5 := Lib.hid h5; clear h5
  have H6 := Lib.hid h6; clear h6
  have H7 := Lib.hid h7; clear h7
  have H8 := Lib.hid h8; clear h8
  have B0 := Lib.hid (Below.refl w.heap.size w)
  go_enter Try.func7, Try.ntmps7
  go_wp2_with fail
  refine (H1.out _).mono ?_
  rintro e w1 ⟨rfl, rfl⟩
  go_wp2_with fail
  refine (H2.out _).mono ?_
  rintro e w2 ⟨rfl, rfl⟩
  go_wp2_with fail
  refine (H3.out _).mono ?_
  rintro e w3 ⟨rfl, rfl⟩
  go_wp2_with fail
  refine (H4.out _).mono ?_
  rintro e w4 ⟨rfl, rfl⟩
  go_wp2_with fail
  refine (H5.out _).mono ?_
  rintro e w5 ⟨rfl, rfl⟩
  go_wp2_with fail
  refine (H6.out _).mono ?_
  rintro e w6 ⟨rfl, rfl⟩
  go_wp2_with fail
  refine (H7.out _).mono ?_
  rintro e w7 ⟨rfl, rfl⟩
  go_wp2_with fail
  refine (H8.out _).mono ?_
  rintro e w8 ⟨rfl, rfl⟩
  go_wp2_with fail
  refine (alive03 _).mono ?_
  rintro e w9 ⟨rfl, hb⟩
  have B9 := Lib.hid (B0.out.trans (hb.mono B0.out.size))
  clear hb B0
  go_wp2_with fail
  go_ret
  exact ⟨rfl, B9.out⟩

set_option maxHeartbeats 2000000 in
theorem ro_00y_lt0 (a b c ca cb ka kb : Nat) (w : World) (h1 : ∀ w, Calls Try.prog 33 #[.int .u64 a, .int .u64 b] w fun e w' => e = .returned (.bool true) ∧ w = w')
    (h2 : ∀ w, Calls Try.prog 33 #[.int .u64 b, .int .u64 a] w fun e w' => e = .returned (.bool false) ∧ w = w')
    (h3 : ∀ w, Calls Try.prog 31 #[.int .u64 a] w fun e w' => e = .returned (.int .u64 ca) ∧ w = w') (h4 : ∀ w, Calls Try.prog 31 #[.int .u64 b] w fun e w' => e = .returned (.int .u64 cb) ∧ w = w')
    (h5 : ∀ w, Calls Try.prog 35 #[.int .u64 a] w fun e w' => e = .returned (.int .u64 ka) ∧ w = w') (h6 : ∀ w, Calls Try.prog 35 #[.int .u64 b] w fun e w' => e = .returned (.int .u64 kb) ∧ w = w')
    (h7 : ∀ w, Calls Try.prog 33 #[.int .u64 b, .int .u64 c] w fun e w' => e = .returned (.bool false) ∧ w = w')
    (hc : ((ca : Int) == (cb : Int)) = false) (hk : decide (ka < kb) = true) (g1 : (FloatKind.f64.format.order a a == some .eq) = true) (g2 : (FloatKind.f64.format.order b b == some .eq) = true) (g1' : (FloatKind.f64.format.order a a != some .eq) = false) (g2' : (FloatKind.f64.format.order b b != some .eq) = false) (g3 : (FloatKind.f64.format.order a 0 != some .eq) = false) (g4 : (FloatKind.f64.format.order b 0 != some .eq) = true) (g5 : (FloatKind.f64.format.order a b == some .lt) = true) :
    Calls Try.prog 7 #[.int .u64 a, .int .u64 b, .int .u64 c] w fun e w' => e = .returned (.bool true) ∧ Below w.heap.size w w' := by
  have fb1 := fun w => frombits a w
  have fb2 := fun w => frombits b w
  have H1 := Lib.hid h1; clear h1
  have H2 := Lib.hid h2; clear h2
  have H3 := Lib.hid h3; clear h3
  have H4 := Lib.hid h4; clear h4
  have H5 := Lib.hid h5; clear h5
  have H6 := Lib.hid h6; clear h6
  have H7 := Lib.hid h7; clear h7
  have B0 := Lib.hid (Below.refl w.heap.size w)
  go_enter Try.func7, Try.ntmps7
  go_wp2_with fail
  refine (H1.out _).mono ?_
  rintro e w1 ⟨rfl, rfl⟩
  go_wp2_with fail
  refine (H2.out _).mono ?_
  rintro e w2 ⟨rfl, rfl⟩
  go_wp2_with fail
  refine (H3.out _).mono ?_
  rintro e w3 ⟨rfl, rfl⟩
  go_wp2_with fail
  refine (H4.out _).mono ?_
  rintro e w4 ⟨rfl, rfl⟩
  go_wp2_with fail
  refine (H5.out _).mono ?_
  rintro e w5 ⟨rfl, rfl⟩
  go_wp2_with fail
  refine (H6.out _).mono ?_
  rintro e w6 ⟨rfl, rfl⟩
  go_wp2_with fail
  refine (H7.out _).mono ?_
  rintro e w7 ⟨rfl, rfl⟩
  go_wp2_with fail
  refine (alive03 _).mono ?_
  rintro e w8 ⟨rfl, hb⟩
  have B8 := Lib.hid (B0.out.trans (hb.mono B0.out.size))
  clear hb B0
  go_wp2_with fail
  go_ret
  exact ⟨rfl, B8.out⟩

set_option maxHeartbeats 2000000 in
theorem ro_00y_gt (a b c ca cb ka kb : Nat) (w : World) (h1 : ∀ w, Calls Try.prog 33 #[.int .u64 a, .int .u64 b] w fun e w' => e = .returned (.bool false) ∧ w = w')
    (h2 : ∀ w, Calls Try.prog 33 #[.int .u64 b, .int .u64 a] w fun e w' => e = .returned (.bool true) ∧ w = w')
    (h3 : ∀ w, Calls Try.prog 31 #[.int .u64 a] w fun e w' => e = .returned (.int .u64 ca) ∧ w = w') (h4 : ∀ w, Calls Try.prog 31 #[.int .u64 b] w fun e w' => e = .returned (.int .u64 cb) ∧ w = w')
    (h5 : ∀ w, Calls Try.prog 35 #[.int .u64 a] w fun e w' => e = .returned (.int .u64 ka) ∧ w = w') (h6 : ∀ w, Calls Try.prog 35 #[.int .u64 b] w fun e w' => e = .returned (.int .u64 kb) ∧ w = w')
    
    (hc : ((ca : Int) == (cb : Int)) = false) (hk : decide (ka < kb) = false) (g1 : (FloatKind.f64.format.order a a == some .eq) = true) (g2 : (FloatKind.f64.format.order b b == some .eq) = true) (g1' : (FloatKind.f64.format.order a a != some .eq) = false) (g2' : (FloatKind.f64.format.order b b != some .eq) = false) (g3 : (FloatKind.f64.format.order a 0 != some .eq) = false) (g4 : (FloatKind.f64.format.order b 0 != some .eq) = true) (g5 : (FloatKind.f64.format.order a b == some .lt) = false) :
    Calls Try.prog 7 #[.int .u64 a, .int .u64 b, .int .u64 c] w fun e w' => e = .returned (.bool true) ∧ Below w.heap.size w w' := by
  have fb1 := fun w => frombits a w
  have fb2 := fun w => frombits b w
  have H1 := Lib.hid h1; clear h1
  have H2 := Lib.hid h2; clear h2
  have H3 := Lib.hid h3; clear h3
  have H4 := Lib.hid h4; clear h4
  have H5 := Lib.hid h5; clear h5
  have H6 := Lib.hid h6; clear h6
  have B0 := Lib.hid (Below.refl w.heap.size w)
  go_enter Try.func7, Try.ntmps7
  go_wp2_with fail
  refine (H1.out _).mono ?_
  rintro e w1 ⟨rfl, rfl⟩
  go_wp2_with fail
  refine (H2.out _).mono ?_
  rintro e w2 ⟨rfl, rfl⟩
  go_wp2_with fail
  refine (H3.out _).mono ?_
  rintro e w3 ⟨rfl, rfl⟩
  go_wp2_with fail
  refine (H4.out _).mono ?_
  rintro e w4 ⟨rfl, rfl⟩
  go_wp2_with fail
  refine (H5.out _).mono ?_
  rintro e w5 ⟨rfl, rfl⟩
  go_wp2_with fail
  refine (H6.out _).mono ?_
  rintro e w6 ⟨rfl, rfl⟩
  go_wp2_with fail
  refine (alive03 _).mono ?_
  rintro e w7 ⟨rfl, hb⟩
  have B7 := Lib.hid (B0.out.trans (hb.mono B0.out.size))
  clear hb B0
  go_wp2_with fail
  go_ret
  exact ⟨rfl, B7.out⟩

set_option maxHeartbeats 2000000 in
theorem ro_00y_eq (a b c ca cb ka kb : Nat) (w : World) (h1 : ∀ w, Calls Try.prog 33 #[.int .u64 a, .int .u64 b] w fun e w' => e = .returned (.bool false) ∧ w = w')
    (h2 : ∀ w, Calls Try.prog 33 #[.int .u64 b, .int .u64 a] w fun e w' => e = .returned (.bool false) ∧ w = w')
    (h3 : ∀ w, Calls Try.prog 31 #[.int .u64 a] w fun e w' => e = .returned (.int .u64 ca) ∧ w = w') (h4 : ∀ w, Calls Try.prog 31 #[.int .u64 b] w fun e w' => e = .returned (.int .u64 cb) ∧ w = w')
    (h5 : ∀ w, Calls Try.prog 35 #[.int .u64 a] w fun e w' => e = .returned (.int .u64 ka) ∧ w = w') (h6 : ∀ w, Calls Try.prog 35 #[.int .u64 b] w fun e w' => e = .returned (.int .u64 kb) ∧ w = w')
    
    (hc : ((ca : Int) == (cb : Int)) = true) (hk : decide (ka < kb) = false) (g1 : (FloatKind.f64.format.order a a == some .eq) = true) (g2 : (FloatKind.f64.format.order b b == some .eq) = true) (g1' : (FloatKind.f64.format.order a a != some .eq) = false) (g2' : (FloatKind.f64.format.order b b != some .eq) = false) (g3 : (FloatKind.f64.format.order a 0 != some .eq) = false) (g4 : (FloatKind.f64.format.order b 0 != some .eq) = true) (g5 : (FloatKind.f64.format.order a b == some .lt) = false) :
    Calls Try.prog 7 #[.int .u64 a, .int .u64 b, .int .u64 c] w fun e w' => e = .returned (.bool true) ∧ Below w.heap.size w w' := by
  have fb1 := fun w => frombits a w
  have fb2 := fun w => frombits b w
  have H1 := Lib.hid h1; clear h1
  have H2 := Lib.hid h2; clear h2
  have H3 := Lib.hid h3; clear h3
  have H4 := Lib.hid h4; clear h4
  have H5 := Lib.hid h5; clear h5
  have H6 := Lib.hid h6; clear h6
  have B0 := Lib.hid (Below.refl w.heap.size w)
  go_enter Try.func7, Try.ntmps7
  go_wp2_with fail
  refine (H1.out _).mono ?_
  rintro e w1 ⟨rfl, rfl⟩
  go_wp2_with fail
  refine (H2.out _).mono ?_
  rintro e w2 ⟨rfl, rfl⟩
  go_wp2_with fail
  refine (H3.out _).mono ?_
  rintro e w3 ⟨rfl, rfl⟩
  go_wp2_with fail
  refine (H4.out _).mono ?_
  rintro e w4 ⟨rfl, rfl⟩
  go_wp2_with fail
  refine (H5.out _).mono ?_
  rintro e w5 ⟨rfl, rfl⟩
  go_wp2_with fail
  refine (H6.out _).mono ?_
  rintro e w6 ⟨rfl, rfl⟩
  go_wp2_with fail
  refine (alive03 _).mono ?_
  rintro e w7 ⟨rfl, hb⟩
  have B7 := Lib.hid (B0.out.trans (hb.mono B0.out.size))
  clear hb B0
  go_wp2_with fail
  go_ret
  exact ⟨rfl, B7.out⟩

set_option maxHeartbeats 2000000 in
theorem ro_00n_lt1 (a b c ca cb ka kb : Nat) (w : World) (h1 : ∀ w, Calls Try.prog 33 #[.int .u64 a, .int .u64 b] w fun e w' => e = .returned (.bool true) ∧ w = w')
    (h2 : ∀ w, Calls Try.prog 33 #[.int .u64 b, .int .u64 a] w fun e w' => e = .returned (.bool false) ∧ w = w')
    (h3 : ∀ w, Calls Try.prog 31 #[.int .u64 a] w fun e w' => e = .returned (.int .u64 ca) ∧ w = w') (h4 : ∀ w, Calls Try.prog 31 #[.int .u64 b] w fun e w' => e = .returned (.int .u64 cb) ∧ w = w')
    (h5 : ∀ w, Calls Try.prog 35 #[.int .u64 a] w fun e w' => e = .returned (.int .u64 ka) ∧ w = w') (h6 : ∀ w, Calls Try.prog 35 #[.int .u64 b] w fun e w' => e = .returned (.int .u64 kb) ∧ w = w')
    (h7 : ∀ w, Calls Try.prog 33 #[.int .u64 b, .int .u64 c] w fun e w' => e = .returned (.bool true) ∧ w = w')(h8 : ∀ w, Calls Try.prog 33 #[.int .u64 a, .int .u64 c] w fun e w' => e = .returned (.bool true) ∧ w = w')
    (hc : ((ca : Int) == (cb : Int)) = false) (hk : decide (ka < kb) = true) (g1 : (FloatKind.f64.format.order a a == some .eq) = true) (g2 : (FloatKind.f64.format.order b b == some .eq) = true) (g1' : (FloatKind.f64.format.order a a != some .eq) = false) (g2' : (FloatKind.f64.format.order b b != some .eq) = false) (g3 : (FloatKind.f64.format.order a 0 != some .eq) = false) (g4 : (FloatKind.f64.format.order b 0 != some .eq) = false) :
    Calls Try.prog 7 #[.int .u64 a, .int .u64 b, .int .u64 c] w fun e w' => e = .returned (.bool true) ∧ Below w.heap.size w w' := by
  have fb1 := fun w => frombits a w
  have fb2 := fun w => frombits b w
  have H1 := Lib.hid h1; clear h1
  have H2 := Lib.hid h2; clear h2
  have H3 := Lib.hid h3; clear h3
  have H4 := Lib.hid h4; clear h4
  have H5 := Lib.hid h5; clear h5
  have H6 := Lib.hid h6; clear h6
  have H7 := Lib.hid h7; clear h7
  have H8 := Lib.hid h8; clear h8
  have B0 := Lib.hid (Below.refl w.heap.size w)
  go_enter Try.func7, Try.ntmps7
  go_wp2_with fail
  refine (H1.out _).mono ?_
  rintro e w1 ⟨rfl, rfl⟩
  go_wp2_with fail
  refine (H2.out _).mono ?_
  rintro e w2 ⟨rfl, rfl⟩
  go_wp2_with fail
  refine (H3.out _).mono ?_
  rintro e w3 ⟨rfl, rfl⟩
  go_wp2_with fail
  refine (H4.out _).mono ?_
  rintro e w4 ⟨rfl, rfl⟩
  go_wp2_with fail
  refine (H5.out _).mono ?_
  rintro e w5 ⟨rfl, rfl⟩
  go_wp2_with fail
  refine (H6.out _).mono ?_
  rintro e w6 ⟨rfl, rfl⟩
  go_wp2_with fail
  refine (H7.out _).mono ?_
  rintro e w7 ⟨rfl, rfl⟩
  go_wp2_with fail
  refine (H8.out _).mono ?_
  rintro e w8 ⟨rfl, rfl⟩
  go_wp2_with fail
  refine (alive03 _).mono ?_
  rintro e w9 ⟨rfl, hb⟩
  have B9 := Lib.hid (B0.out.trans (hb.mono B0.out.size))
  clear hb B0
  go_wp2_with fail
  go_ret
  exact ⟨rfl, B9.out⟩

set_option maxHeartbeats 2000000 in
theorem ro_00n_lt0 (a b c ca cb ka kb : Nat) (w : World) (h1 : ∀ w, Calls Try.prog 33 #[.int .u64 a, .int .u64 b] w fun e w' => e = .returned (.bool true) ∧ w = w')
    (h2 : ∀ w, Calls Try.prog 33 #[.int .u64 b, .int .u64 a] w fun e w' => e = .returned (.bool false) ∧ w = w')
    (h3 : ∀ w, Calls Try.prog 31 #[.int .u64 a] w fun e w' => e = .returned (.int .u64 ca) ∧ w = w') (h4 : ∀ w, Calls Try.prog 31 #[.int .u64 b] w fun e w' => e = .returned (.int .u64 cb) ∧ w = w')
    (h5 : ∀ w, Calls Try.prog 35 #[.int .u64 a] w fun e w' => e = .returned (.int .u64 ka) ∧ w = w') (h6 : ∀ w, Calls Try.prog 35 #[.int .u64 b] w fun e w' => e = .returned (.int .u64 kb) ∧ w = w')
    (h7 : ∀ w, Calls Try.prog 33 #[.int .u64 b, .int .u64 c] w fun e w' => e = .returned (.bool false) ∧ w = w')
    (hc : ((ca : Int) == (cb : Int)) = false) (hk : decide (ka < kb) = true) (g1 : (FloatKind.f64.format.order a a == some .eq) = true) (g2 : (FloatKind.f64.format.order b b == some .eq) = true) (g1' : (FloatKind.f64.format.order a a != some .eq) = false) (g2' : (FloatKind.f64.format.order b b != some .eq) = false) (g3 : (FloatKind.f64.format.order a 0 != some .eq) = false) (g4 : (FloatKind.f64.format.order b 0 != some .eq) = false) :
    Calls Try.prog 7 #[.int .u64 a, .int .u64 b, .int .u64 c] w fun e w' => e = .returned (.bool true) ∧ Below w.heap.size w w' := by
  have fb1 := fun w => frombits a w
  have fb2 := fun w => frombits b w
  have H1 := Lib.hid h1; clear h1
  have H2 := Lib.hid h2; clear h2
  have H3 := Lib.hid h3; clear h3
  have H4 := Lib.hid h4; clear h4
  have H5 := Lib.hid h5; clear h5
  have H6 := Lib.hid h6; clear h6
  have H7 := Lib.hid h7; clear h7
  have B0 := Lib.hid (Below.refl w.heap.size w)
  go_enter Try.func7, Try.ntmps7
  go_wp2_with fail
  refine (H1.out _).mono ?_
  rintro e w1 ⟨rfl, rfl⟩
  go_wp2_with fail
  refine (H2.out _).mono ?_
  rintro e w2 ⟨rfl, rfl⟩
  go_wp2_with fail
  refine (H3.out _).mono ?_
  rintro e w3 ⟨rfl, rfl⟩
  go_wp2_with fail
  refine (H4.out _).mono ?_
  rintro e w4 ⟨rfl, rfl⟩
  go_wp2_with fail
  refine (H5.out _).mono ?_
  rintro e w5 ⟨rfl, rfl⟩
  go_wp2_with fail
  refine (H6.out _).mono ?_
  rintro e w6 ⟨rfl, rfl⟩
  go_wp2_with fail
  refine (H7.out _).mono ?_
  rintro e w7 ⟨rfl, rfl⟩
  go_wp2_with fail
  refine (alive03 _).mono ?_
  rintro e w8 ⟨rfl, hb⟩
  have B8 := Lib.hid (B0.out.trans (hb.mono B0.out.size))
  clear hb B0
  go_wp2_with fail
  go_ret
  exact ⟨rfl, B8.out⟩

set_option maxHeartbeats 2000000 in
theorem ro_00n_gt (a b c ca cb ka kb : Nat) (w : World) (h1 : ∀ w, Calls Try.prog 33 #[.int .u64 a, .int .u64 b] w fun e w' => e = .returned (.bool false) ∧ w = w')
    (h2 : ∀ w, Calls Try.prog 33 #[.int .u64 b, .int .u64 a] w fun e w' => e = .returned (.bool true) ∧ w = w')
    (h3 : ∀ w, Calls Try.prog 31 #[.int .u64 a] w fun e w' => e = .returned (.int .u64 ca) ∧ w = w') (h4 : ∀ w, Calls Try.prog 31 #[.int .u64 b] w fun e w' => e = .returned (.int .u64 cb) ∧ w = w')
    (h5 : ∀ w, Calls Try.prog 35 #[.int .u64 a] w fun e w' => e = .returned (.int .u64 ka) ∧ w = w') (h6 : ∀ w, Calls Try.prog 35 #[.int .u64 b] w fun e w' => e = .returned (.int .u64 kb) ∧ w = w')
    
    (hc : ((ca : Int) == (cb : Int)) = false) (hk : decide (ka < kb) = false) (g1 : (FloatKind.f64.format.order a a == some .eq) = true) (g2 : (FloatKind.f64.format.order b b == some .eq) = true) (g1' : (FloatKind.f64.format.order a a != some .eq) = false) (g2' : (FloatKind.f64.format.order b b != some .eq) = false) (g3 : (FloatKind.f64.format.order a 0 != some .eq) = false) (g4 : (FloatKind.f64.format.order b 0 != some .eq) = false) :
    Calls Try.prog 7 #[.int .u64 a, .int .u64 b, .int .u64 c] w fun e w' => e = .returned (.bool true) ∧ Below w.heap.size w w' := by
  have fb1 := fun w => frombits a w
  have fb2 := fun w => frombits b w
  have H1 := Lib.hid h1; clear h1
  have H2 := Lib.hid h2; clear h2
  have H3 := Lib.hid h3; clear h3
  have H4 := Lib.hid h4; clear h4
  have H5 := Lib.hid h5; clear h5
  have H6 := Lib.hid h6; clear h6
  have B0 := Lib.hid (Below.refl w.heap.size w)
  go_enter Try.func7, Try.ntmps7
  go_wp2_with fail
  refine (H1.out _).mono ?_
  rintro e w1 ⟨rfl, rfl⟩
  go_wp2_with fail
  refine (H2.out _).mono ?_
  rintro e w2 ⟨rfl, rfl⟩
  go_wp2_with fail
  refine (H3.out _).mono ?_
  rintro e w3 ⟨rfl, rfl⟩
  go_wp2_with fail
  refine (H4.out _).mono ?_
  rintro e w4 ⟨rfl, rfl⟩
  go_wp2_with fail
  refine (H5.out _).mono ?_
  rintro e w5 ⟨rfl, rfl⟩
  go_wp2_with fail
  refine (H6.out _).mono ?_
  rintro e w6 ⟨rfl, rfl⟩
  go_wp2_with fail
  refine (alive03 _).mono ?_
  rintro e w7 ⟨rfl, hb⟩
  have B7 := Lib.hid (B0.out.trans (hb.mono B0.out.size))
  clear hb B0
  go_wp2_with fail
  go_ret
  exact ⟨rfl, B7.out⟩

set_option maxHeartbeats 2000000 in
theorem ro_00n_eq (a b c ca cb ka kb : Nat) (w : World) (h1 : ∀ w, Calls Try.prog 33 #[.int .u64 a, .int .u64 b] w fun e w' => e = .returned (.bool false) ∧ w = w')
    (h2 : ∀ w, Calls Try.prog 33 #[.int .u64 b, .int .u64 a] w fun e w' => e = .returned (.bool false) ∧ w = w')
    (h3 : ∀ w, Calls Try.prog 31 #[.int .u64 a] w fun e w' => e = .returned (.int .u64 ca) ∧ w = w') (h4 : ∀ w, Calls Try.prog 31 #[.int .u64 b] w fun e w' => e = .returned (.int .u64 cb) ∧ w = w')
    (h5 : ∀ w, Calls Try.prog 35 #[.int .u64 a] w fun e w' => e = .returned (.int .u64 ka) ∧ w = w') (h6 : ∀ w, Calls Try.prog 35 #[.int .u64 b] w fun e w' => e = .returned (.int .u64 kb) ∧ w = w')
    
    (hc : ((ca : Int) == (cb : Int)) = true) (hk : decide (ka < kb) = false) (g1 : (FloatKind.f64.format.order a a == some .eq) = true) (g2 : (FloatKind.f64.format.order b b == some .eq) = true) (g1' : (FloatKind.f64.format.order a a != some .eq) = false) (g2' : (FloatKind.f64.format.order b b != some .eq) = false) (g3 : (FloatKind.f64.format.order a 0 != some .eq) = false) (g4 : (FloatKind.f64.format.order b 0 != some .eq) = false) :
    Calls Try.prog 7 #[.int .u64 a, .int .u64 b, .int .u64 c] w fun e w' => e = .returned (.bool true) ∧ Below w.heap.size w w' := by
  have fb1 := fun w => frombits a w
  have fb2 := fun w => frombits b w
  have H1 := Lib.hid h1; clear h1
  have H2 := Lib.hid h2; clear h2
  have H3 := Lib.hid h3; clear h3
  have H4 := Lib.hid h4; clear h4
  have H5 := Lib.hid h5; clear h5
  have H6 := Lib.hid h6; clear h6
  have B0 := Lib.hid (Below.refl w.heap.size w)
  go_enter Try.func7, Try.ntmps7
  go_wp2_with fail
  refine (H1.out _).mono ?_
  rintro e w1 ⟨rfl, rfl⟩
  go_wp2_with fail
  refine (H2.out _).mono ?_
  rintro e w2 ⟨rfl, rfl⟩
  go_wp2_with fail
  refine (H3.out _).mono ?_
  rintro e w3 ⟨rfl, rfl⟩
  go_wp2_with fail
  refine (H4.out _).mono ?_
  rintro e w4 ⟨rfl, rfl⟩
  go_wp2_with fail
  refine (H5.out _).mono ?_
  rintro e w5 ⟨rfl, rfl⟩
  go_wp2_with fail
  refine (H6.out _).mono ?_
  rintro e w6 ⟨rfl, rfl⟩
  go_wp2_with fail
  refine (alive03 _).mono ?_
  rintro e w7 ⟨rfl, hb⟩
  have B7 := Lib.hid (B0.out.trans (hb.mono B0.out.size))
  clear hb B0
  go_wp2_with fail
  go_ret
  exact ⟨rfl, B7.out⟩

theorem realOrder_walk (x0 : Int) (wf0 : (Lit.int .u64 x0).wf = true) (x1 : Int) (wf1 : (Lit.int .u64 x1).wf = true) (x2 : Int) (wf2 : (Lit.int .u64 x2).wf = true) (w : World) :
    Calls Try.prog 7 #[.int .u64 x0, .int .u64 x1, .int .u64 x2] w fun e w' => e = .returned (.bool true) ∧ Below w.heap.size w w' := by
  obtain ⟨a, rfl, ha⟩ := u64_nat wf0
  obtain ⟨b, rfl, hb⟩ := u64_nat wf1
  obtain ⟨c, rfl, hc⟩ := u64_nat wf2
  have h1 := fun w => less_any a b w ha hb
  have h2 := fun w => less_any b a w hb ha
  have h3 := fun w => canon_any a w
  have h4 := fun w => canon_any b w
  have h5 := fun w => key_any a w ha
  have h6 := fun w => key_any b w hb
  have h7 := fun w => less_any b c w hb hc
  have h8 := fun w => less_any a c w ha hc
  have kc : Rl.key a = Rl.key b → Rl.canon a = Rl.canon b := fun e => Rl.keyOf_inj (Rl.canon_lt ha) (Rl.canon_lt hb) e
  have ck : Rl.canon a = Rl.canon b → Rl.key a = Rl.key b := fun e => by unfold Rl.key; rw [e]
  have top : ∀ x, x < 18446744073709551616 → Rl.nan x = false → Rl.key x < 18444492273895866369 := by
    intro x hx hn
    unfold Rl.key Rl.keyOf
    rw [Rl.canon_of hn]
    have hm := Rl.not_nan hn
    split <;> omega
  have nk : ∀ x, Rl.nan x = true → Rl.key x = 18444492273895866369 := by
    intro x hn
    unfold Rl.key; rw [Rl.canon_nan hn]; rfl
  have hc1 : ∀ v : Bool, (decide (Rl.key a = Rl.key b) = v) → ((Rl.canon a : Int) == (Rl.canon b : Int)) = v := by
    intro v hv
    by_cases e : Rl.key a = Rl.key b
    · rw [decide_eq_true e] at hv; rw [kc e, ← hv]; simp
    · rw [decide_eq_false e] at hv
      have : Rl.canon a ≠ Rl.canon b := fun e2 => e (ck e2)
      rw [← hv]; simp; omega
  cases na : Rl.nan a <;> cases nb : Rl.nan b
  · by_cases za : a % 9223372036854775808 = 0
    · by_cases zb : b % 9223372036854775808 = 0
      · rcases Nat.lt_trichotomy (Rl.key a) (Rl.key b) with hr | hr | hr
        · by_cases hl : Rl.key b < Rl.key c
          · have d1 : decide (Rl.key a < Rl.key b) = true := by simp; omega
            have d2 : decide (Rl.key b < Rl.key a) = false := by simp; omega
            have d3 : decide (Rl.key a = Rl.key b) = false := by simp; omega
            rw [d1] at h1; rw [d2] at h2
            have d4 : decide (Rl.key b < Rl.key c) = true := by simp; omega
            rw [d4] at h7
            have d5 : decide (Rl.key a < Rl.key c) = true := by simp; omega
            rw [d5] at h8
            exact ro_00n_lt1 a b c _ _ _ _ w h1 h2 h3 h4 h5 h6 h7 h8 (hc1 _ d3) d1 (by rw [order_self_eq, na]; rfl) (by rw [order_self_eq, nb]; rfl) (by rw [order_self_ne, na]) (by rw [order_self_ne, nb]) (by rw [order_zero a na]; simp; omega) (by rw [order_zero b nb]; simp; omega)
          · have d1 : decide (Rl.key a < Rl.key b) = true := by simp; omega
            have d2 : decide (Rl.key b < Rl.key a) = false := by simp; omega
            have d3 : decide (Rl.key a = Rl.key b) = false := by simp; omega
            rw [d1] at h1; rw [d2] at h2
            have d4 : decide (Rl.key b < Rl.key c) = false := by simp; omega
            rw [d4] at h7
            exact ro_00n_lt0 a b c _ _ _ _ w h1 h2 h3 h4 h5 h6 h7 (hc1 _ d3) d1 (by rw [order_self_eq, na]; rfl) (by rw [order_self_eq, nb]; rfl) (by rw [order_self_ne, na]) (by rw [order_self_ne, nb]) (by rw [order_zero a na]; simp; omega) (by rw [order_zero b nb]; simp; omega)
        · have d1 : decide (Rl.key a < Rl.key b) = false := by simp; omega
          have d2 : decide (Rl.key b < Rl.key a) = false := by simp; omega
          have d3 : decide (Rl.key a = Rl.key b) = true := by simp; omega
          rw [d1] at h1; rw [d2] at h2
          exact ro_00n_eq a b c _ _ _ _ w h1 h2 h3 h4 h5 h6 (hc1 _ d3) d1 (by rw [order_self_eq, na]; rfl) (by rw [order_self_eq, nb]; rfl) (by rw [order_self_ne, na]) (by rw [order_self_ne, nb]) (by rw [order_zero a na]; simp; omega) (by rw [order_zero b nb]; simp; omega)
        · have d1 : decide (Rl.key a < Rl.key b) = false := by simp; omega
          have d2 : decide (Rl.key b < Rl.key a) = true := by simp; omega
          have d3 : decide (Rl.key a = Rl.key b) = false := by simp; omega
          rw [d1] at h1; rw [d2] at h2
          exact ro_00n_gt a b c _ _ _ _ w h1 h2 h3 h4 h5 h6 (hc1 _ d3) d1 (by rw [order_self_eq, na]; rfl) (by rw [order_self_eq, nb]; rfl) (by rw [order_self_ne, na]) (by rw [order_self_ne, nb]) (by rw [order_zero a na]; simp; omega) (by rw [order_zero b nb]; simp; omega)
      · rcases Nat.lt_trichotomy (Rl.key a) (Rl.key b) with hr | hr | hr
        · by_cases hl : Rl.key b < Rl.key c
          · have d1 : decide (Rl.key a < Rl.key b) = true := by simp; omega
            have d2 : decide (Rl.key b < Rl.key a) = false := by simp; omega
            have d3 : decide (Rl.key a = Rl.key b) = false := by simp; omega
            rw [d1] at h1; rw [d2] at h2
            have d4 : decide (Rl.key b < Rl.key c) = true := by simp; omega
            rw [d4] at h7
            have d5 : decide (Rl.key a < Rl.key c) = true := by simp; omega
            rw [d5] at h8
            exact ro_00y_lt1 a b c _ _ _ _ w h1 h2 h3 h4 h5 h6 h7 h8 (hc1 _ d3) d1 (by rw [order_self_eq, na]; rfl) (by rw [order_self_eq, nb]; rfl) (by rw [order_self_ne, na]) (by rw [order_self_ne, nb]) (by rw [order_zero a na]; simp; omega) (by rw [order_zero b nb]; simp; omega) (by rw [order_lt a b na nb ha hb (by omega), d1])
          · have d1 : decide (Rl.key a < Rl.key b) = true := by simp; omega
            have d2 : decide (Rl.key b < Rl.key a) = false := by simp; omega
            have d3 : decide (Rl.key a = Rl.key b) = false := by simp; omega
            rw [d1] at h1; rw [d2] at h2
            have d4 : decide (Rl.key b < Rl.key c) = false := by simp; omega
            rw [d4] at h7
            exact ro_00y_lt0 a b c _ _ _ _ w h1 h2 h3 h4 h5 h6 h7 (hc1 _ d3) d1 (by rw [order_self_eq, na]; rfl) (by rw [order_self_eq, nb]; rfl) (by rw [order_self_ne, na]) (by rw [order_self_ne, nb]) (by rw [order_zero a na]; simp; omega) (by rw [order_zero b nb]; simp; omega) (by rw [order_lt a b na nb ha hb (by omega), d1])
        · have d1 : decide (Rl.key a < Rl.key b) = false := by simp; omega
          have d2 : decide (Rl.key b < Rl.key a) = false := by simp; omega
          have d3 : decide (Rl.key a = Rl.key b) = true := by simp; omega
          rw [d1] at h1; rw [d2] at h2
          exact ro_00y_eq a b c _ _ _ _ w h1 h2 h3 h4 h5 h6 (hc1 _ d3) d1 (by rw [order_self_eq, na]; rfl) (by rw [order_self_eq, nb]; rfl) (by rw [order_self_ne, na]) (by rw [order_self_ne, nb]) (by rw [order_zero a na]; simp; omega) (by rw [order_zero b nb]; simp; omega) (by rw [order_lt a b na nb ha hb (by omega), d1])
        · have d1 : decide (Rl.key a < Rl.key b) = false := by simp; omega
          have d2 : decide (Rl.key b < Rl.key a) = true := by simp; omega
          have d3 : decide (Rl.key a = Rl.key b) = false := by simp; omega
          rw [d1] at h1; rw [d2] at h2
          exact ro_00y_gt a b c _ _ _ _ w h1 h2 h3 h4 h5 h6 (hc1 _ d3) d1 (by rw [order_self_eq, na]; rfl) (by rw [order_self_eq, nb]; rfl) (by rw [order_self_ne, na]) (by rw [order_self_ne, nb]) (by rw [order_zero a na]; simp; omega) (by rw [order_zero b nb]; simp; omega) (by rw [order_lt a b na nb ha hb (by omega), d1])
    · rcases Nat.lt_trichotomy (Rl.key a) (Rl.key b) with hr | hr | hr
      · by_cases hl : Rl.key b < Rl.key c
        · have d1 : decide (Rl.key a < Rl.key b) = true := by simp; omega
          have d2 : decide (Rl.key b < Rl.key a) = false := by simp; omega
          have d3 : decide (Rl.key a = Rl.key b) = false := by simp; omega
          rw [d1] at h1; rw [d2] at h2
          have d4 : decide (Rl.key b < Rl.key c) = true := by simp; omega
          rw [d4] at h7
          have d5 : decide (Rl.key a < Rl.key c) = true := by simp; omega
          rw [d5] at h8
          exact ro_00x_lt1 a b c _ _ _ _ w h1 h2 h3 h4 h5 h6 h7 h8 (hc1 _ d3) d1 (by rw [order_self_eq, na]; rfl) (by rw [order_self_eq, nb]; rfl) (by rw [order_self_ne, na]) (by rw [order_self_ne, nb]) (by rw [order_zero a na]; simp; omega) (by rw [order_lt a b na nb ha hb (by omega), d1])
        · have d1 : decide (Rl.key a < Rl.key b) = true := by simp; omega
          have d2 : decide (Rl.key b < Rl.key a) = false := by simp; omega
          have d3 : decide (Rl.key a = Rl.key b) = false := by simp; omega
          rw [d1] at h1; rw [d2] at h2
          have d4 : decide (Rl.key b < Rl.key c) = false := by simp; omega
          rw [d4] at h7
          exact ro_00x_lt0 a b c _ _ _ _ w h1 h2 h3 h4 h5 h6 h7 (hc1 _ d3) d1 (by rw [order_self_eq, na]; rfl) (by rw [order_self_eq, nb]; rfl) (by rw [order_self_ne, na]) (by rw [order_self_ne, nb]) (by rw [order_zero a na]; simp; omega) (by rw [order_lt a b na nb ha hb (by omega), d1])
      · have d1 : decide (Rl.key a < Rl.key b) = false := by simp; omega
        have d2 : decide (Rl.key b < Rl.key a) = false := by simp; omega
        have d3 : decide (Rl.key a = Rl.key b) = true := by simp; omega
        rw [d1] at h1; rw [d2] at h2
        exact ro_00x_eq a b c _ _ _ _ w h1 h2 h3 h4 h5 h6 (hc1 _ d3) d1 (by rw [order_self_eq, na]; rfl) (by rw [order_self_eq, nb]; rfl) (by rw [order_self_ne, na]) (by rw [order_self_ne, nb]) (by rw [order_zero a na]; simp; omega) (by rw [order_lt a b na nb ha hb (by omega), d1])
      · have d1 : decide (Rl.key a < Rl.key b) = false := by simp; omega
        have d2 : decide (Rl.key b < Rl.key a) = true := by simp; omega
        have d3 : decide (Rl.key a = Rl.key b) = false := by simp; omega
        rw [d1] at h1; rw [d2] at h2
        exact ro_00x_gt a b c _ _ _ _ w h1 h2 h3 h4 h5 h6 (hc1 _ d3) d1 (by rw [order_self_eq, na]; rfl) (by rw [order_self_eq, nb]; rfl) (by rw [order_self_ne, na]) (by rw [order_self_ne, nb]) (by rw [order_zero a na]; simp; omega) (by rw [order_lt a b na nb ha hb (by omega), d1])
  · have t1 := top a ha na
    have t2 := nk b nb
    by_cases hl : Rl.key b < Rl.key c
    · have d1 : decide (Rl.key a < Rl.key b) = true := by simp; omega
      have d2 : decide (Rl.key b < Rl.key a) = false := by simp; omega
      have d3 : decide (Rl.key a = Rl.key b) = false := by simp; omega
      rw [d1] at h1; rw [d2] at h2
      have d4 : decide (Rl.key b < Rl.key c) = true := by simp; omega
      rw [d4] at h7
      have d5 : decide (Rl.key a < Rl.key c) = true := by simp; omega
      rw [d5] at h8
      exact ro_01_lt1 a b c _ _ _ _ w h1 h2 h3 h4 h5 h6 h7 h8 (hc1 _ d3) d1 (by rw [order_self_eq, na]; rfl) (by rw [order_self_eq, nb]; rfl) (by rw [order_self_ne, na]) (by rw [order_self_ne, nb])
    · have d1 : decide (Rl.key a < Rl.key b) = true := by simp; omega
      have d2 : decide (Rl.key b < Rl.key a) = false := by simp; omega
      have d3 : decide (Rl.key a = Rl.key b) = false := by simp; omega
      rw [d1] at h1; rw [d2] at h2
      have d4 : decide (Rl.key b < Rl.key c) = false := by simp; omega
      rw [d4] at h7
      exact ro_01_lt0 a b c _ _ _ _ w h1 h2 h3 h4 h5 h6 h7 (hc1 _ d3) d1 (by rw [order_self_eq, na]; rfl) (by rw [order_self_eq, nb]; rfl) (by rw [order_self_ne, na]) (by rw [order_self_ne, nb])
  · have t1 := top b hb nb
    have t2 := nk a na
    have d1 : decide (Rl.key a < Rl.key b) = false := by simp; omega
    have d2 : decide (Rl.key b < Rl.key a) = true := by simp; omega
    have d3 : decide (Rl.key a = Rl.key b) = false := by simp; omega
    rw [d1] at h1; rw [d2] at h2
    exact ro_10_gt a b c _ _ _ _ w h1 h2 h3 h4 h5 h6 (hc1 _ d3) d1 (by rw [order_self_eq, na]; rfl) (by rw [order_self_eq, nb]; rfl) (by rw [order_self_ne, na]) (by rw [order_self_ne, nb])
  · have t1 := nk a na
    have t2 := nk b nb
    have d1 : decide (Rl.key a < Rl.key b) = false := by simp; omega
    have d2 : decide (Rl.key b < Rl.key a) = false := by simp; omega
    have d3 : decide (Rl.key a = Rl.key b) = true := by simp; omega
    rw [d1] at h1; rw [d2] at h2
    exact ro_11_eq a b c _ _ _ _ w h1 h2 h3 h4 h5 h6 (hc1 _ d3) d1 (by rw [order_self_eq, na]; rfl) (by rw [order_self_eq, nb]; rfl) (by rw [order_self_ne, na]) (by rw [order_self_ne, nb])

end Go.Proofs.Ytafialodjnjihaa
