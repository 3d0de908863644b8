/- WordTells: the program's words answer as the reference's. The walk of the law. Condition: the number is a uint64. -/
import Derived.Test.YtafialodjnjihaaAlive01
import Derived.Test.YtafialodjnjihaaNums
namespace Go.Proofs.Ytafialodjnjihaa
open Go Go.RowKit
set_option maxRecDepth 100000
set_option linter.unusedVariables false

set_option maxHeartbeats 1000000 in
theorem wordTells_nat (v : Nat) (n m : Int) (s d : ByteArray) (w : World) (hv : v < 18446744073709551616) :
    Calls Try.prog 9 #[.int .u64 v, .int .i64 n, .int .i64 m, .string s, .string d] w fun e w' => e = .returned (.bool true) ∧ Below w.heap.size w w' := by
  obtain ⟨p1, p2, hp, hp'⟩ := put_both v n hv
  obtain ⟨q1, q2, hq, hq'⟩ := get_both s
  obtain ⟨x1, x2, hx, hx'⟩ := hex_both v m hv
  obtain ⟨y1, y2, hy, hy'⟩ := unhex_both d
  clear hv
  have P := Lib.hid hp; clear hp
  have P' := Lib.hid hp'; clear hp'
  have Q := Lib.hid hq; clear hq
  have Q' := Lib.hid hq'; clear hq'
  have X := Lib.hid hx; clear hx
  have X' := Lib.hid hx'; clear hx'
  have Y := Lib.hid hy; clear hy
  have Y' := Lib.hid hy'; clear hy'
  go_enter Try.func9, Try.ntmps9
  go_wp2_with fail
  refine (P.out _).mono ?_
  rintro e w1 ⟨rfl, hb⟩
  have B1 := Lib.hid hb
  clear hb
  go_wp2_with fail
  refine (P'.out _).mono ?_
  rintro e w2 ⟨rfl, hb⟩
  have B2 := Lib.hid (B1.out.trans (hb.mono B1.out.size))
  clear hb B1
  go_wp2_with fail
  refine (Q.out _).mono ?_
  rintro e w3 ⟨rfl, hb⟩
  have B3 := Lib.hid (B2.out.trans (hb.mono B2.out.size))
  clear hb B2
  go_wp2_with fail
  refine (Q'.out _).mono ?_
  rintro e w4 ⟨rfl, hb⟩
  have B4 := Lib.hid (B3.out.trans (hb.mono B3.out.size))
  clear hb B3
  go_wp2_with fail
  refine (X.out _).mono ?_
  rintro e w5 ⟨rfl, hb⟩
  have B5 := Lib.hid (B4.out.trans (hb.mono B4.out.size))
  clear hb B4
  go_wp2_with fail
  refine (X'.out _).mono ?_
  rintro e w6 ⟨rfl, hb⟩
  have B6 := Lib.hid (B5.out.trans (hb.mono B5.out.size))
  clear hb B5
  go_wp2_with fail
  refine (Y.out _).mono ?_
  rintro e w7 ⟨rfl, hb⟩
  have B7 := Lib.hid (B6.out.trans (hb.mono B6.out.size))
  clear hb B6
  go_wp2_with fail
  refine (Y'.out _).mono ?_
  rintro e w8 ⟨rfl, hb⟩
  have B8 := Lib.hid (B7.out.trans (hb.mono B7.out.size))
  clear hb B7
  go_wp2_with fail
  refine (alive01 _).mono ?_
  rintro e w9 ⟨rfl, hb⟩
  have B9 := Lib.hid (B8.out.trans (hb.mono B8.out.size))
  clear hb B8
  go_wp2_with fail
  go_ret
  exact ⟨rfl, B9.out⟩

theorem wordTells_walk (x0 : Int) (wf0 : (Lit.int .u64 x0).wf = true) (n : Int) (wf1 : (Lit.int .i64 n).wf = true) (m : Int) (wf2 : (Lit.int .i64 m).wf = true) (s : ByteArray) (wf3 : s.size ≤ maxLen) (d : ByteArray) (wf4 : d.size ≤ maxLen) (w : World) :
    Calls Try.prog 9 #[.int .u64 x0, .int .i64 n, .int .i64 m, .string s, .string d] w fun e w' => e = .returned (.bool true) ∧ Below w.heap.size w w' := by
  obtain ⟨v, rfl, hv⟩ := u64_nat wf0
  exact wordTells_nat v n m s d w hv

end Go.Proofs.Ytafialodjnjihaa
