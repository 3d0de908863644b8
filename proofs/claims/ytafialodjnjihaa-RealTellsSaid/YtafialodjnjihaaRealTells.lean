/- RealTells: the program's reals answer as the reference's. The walk of the law. Condition: the numbers fit their kinds. -/
import Derived.Test.YtafialodjnjihaaAlive03
import Derived.Test.YtafialodjnjihaaNums
namespace Go.Proofs.Ytafialodjnjihaa
open Go Go.RowKit
set_option maxRecDepth 100000
set_option linter.unusedVariables false

set_option maxHeartbeats 2000000 in
theorem realTells_nat (a b k : Nat) (s : ByteArray) (w : World) (ha : a < 18446744073709551616) (hb : b < 18446744073709551616) (hk : k < 18446744073709551616) :
    Calls Try.prog 6 #[.int .u64 a, .int .u64 b, .int .u64 k, .string s] w fun e w' => e = .returned (.bool true) ∧ Below w.heap.size w w' := by
  have H1 := Lib.hid (fun w => back_any k w hk)
  have H2 := Lib.hid (fun w => refback_any k w hk)
  have H3 := Lib.hid (fun w => read_any s w)
  have H4 := Lib.hid (fun w => refread_any s w)
  have H5 := Lib.hid (fun w => canon_any a w)
  have H6 := Lib.hid (fun w => refcanon_any a w ha)
  have H7 := Lib.hid (fun w => less_any a b w ha hb)
  have H8 := Lib.hid (fun w => refless_any a b w ha hb)
  have H9 := Lib.hid (fun w => less_any b a w hb ha)
  have H10 := Lib.hid (fun w => refless_any b a w hb ha)
  have H11 := Lib.hid (fun w => key_any a w ha)
  have H12 := Lib.hid (fun w => refkey_any a w ha)
  have H13 := Lib.hid (fun w => text_any a w ha)
  have H14 := Lib.hid (fun w => reftext_any a w ha)
  have B0 := Lib.hid (Below.refl w.heap.size w)
  clear ha hb hk
  generalize decide (Rl.key a < Rl.key b) = l1 at *
  generalize decide (Rl.key b < Rl.key a) = l2 at *
  generalize back k = bk at *
  generalize readOf s = rd at *
  generalize Rl.canon a = cn at *
  generalize Rl.key a = ka at *
  generalize textOf a = tx at *
  obtain ⟨bk1, bk2⟩ := bk
  obtain ⟨rd1, rd2⟩ := rd
  go_enter Try.func6, Try.ntmps6
  go_wp2_with fail
  refine (H1.out _).mono ?_
  rintro e w1 ⟨rfl, hb⟩
  have B1 := Lib.hid (B0.out.trans (hb.mono B0.out.size))
  clear hb B0
  go_wp2_with fail
  refine (H2.out _).mono ?_
  rintro e w2 ⟨rfl, rfl⟩
  go_wp2_with fail
  refine (H3.out _).mono ?_
  rintro e w3 ⟨rfl, hb⟩
  have B3 := Lib.hid (B1.out.trans (hb.mono B1.out.size))
  clear hb B1
  go_wp2_with fail
  refine (H4.out _).mono ?_
  rintro e w4 ⟨rfl, hb⟩
  have B4 := Lib.hid (B3.out.trans (hb.mono B3.out.size))
  clear hb B3
  go_wp2_with fail
  refine (H5.out _).mono ?_
  rintro e w5 ⟨rfl, rfl⟩
  go_wp2_with fail
  refine (H6.out _).mono ?_
  rintro e w6 ⟨rfl, rfl⟩
  go_wp2_with fail
  refine (H7.out _).mono ?_
  rintro e w7 ⟨rfl, rfl⟩
  go_wp2_with fail
  refine (H8.out _).mono ?_
  rintro e w8 ⟨rfl, rfl⟩
  go_wp2_with fail
  refine (H9.out _).mono ?_
  rintro e w9 ⟨rfl, rfl⟩
  go_wp2_with fail
  refine (H10.out _).mono ?_
  rintro e w10 ⟨rfl, rfl⟩
  go_wp2_with fail
  refine (H11.out _).mono ?_
  rintro e w11 ⟨rfl, rfl⟩
  go_wp2_with fail
  refine (H12.out _).mono ?_
  rintro e w12 ⟨rfl, rfl⟩
  go_wp2_with fail
  refine (H13.out _).mono ?_
  rintro e w13 ⟨rfl, hb⟩
  have B13 := Lib.hid (B4.out.trans (hb.mono B4.out.size))
  clear hb B4
  go_wp2_with fail
  refine (H14.out _).mono ?_
  rintro e w14 ⟨rfl, rfl⟩
  go_wp2_with fail
  refine (alive03 _).mono ?_
  rintro e w15 ⟨rfl, hb⟩
  have B15 := Lib.hid (B13.out.trans (hb.mono B13.out.size))
  clear hb B13
  go_wp2_with fail
  go_ret
  exact ⟨rfl, B15.out⟩

theorem realTells_walk (x0 : Int) (wf0 : (Lit.int .u64 x0).wf = true) (x1 : Int) (wf1 : (Lit.int .u64 x1).wf = true) (x2 : Int) (wf2 : (Lit.int .u64 x2).wf = true) (s : ByteArray) (wf3 : s.size ≤ maxLen) (w : World) :
    Calls Try.prog 6 #[.int .u64 x0, .int .u64 x1, .int .u64 x2, .string s] w fun e w' => e = .returned (.bool true) ∧ Below w.heap.size w w' := by
  obtain ⟨a, rfl, ha⟩ := u64_nat wf0
  obtain ⟨b, rfl, hb⟩ := u64_nat wf1
  obtain ⟨k, rfl, hk⟩ := u64_nat wf2
  exact realTells_nat a b k s w ha hb hk

end Go.Proofs.Ytafialodjnjihaa
