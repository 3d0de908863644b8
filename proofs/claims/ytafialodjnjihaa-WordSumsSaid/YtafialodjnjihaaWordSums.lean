/- WordSums: the program's sum of any text is the reference's. The walk of the law. Condition: the text's length is an int. -/
import Derived.Test.YtafialodjnjihaaAlive01
namespace Go.Proofs.Ytafialodjnjihaa
open Go Go.RowKit
set_option maxRecDepth 100000
set_option linter.unusedVariables false

set_option maxHeartbeats 1000000 in
theorem wordSums_walk (s : ByteArray) (hs : s.size ≤ maxLen) (w : World) :
    Calls Try.prog 10 #[.string s] w fun e w' => e = .returned (.bool true) ∧ Below w.heap.size w w' := by
  unfold maxLen at hs
  have S1 := Lib.hid (fun w => sum_any s w (by omega))
  have S2 := Lib.hid (fun w => refsum_any s w (by omega))
  by_cases h : s.size ≤ 16384
  · have t : decide ((16384 : Int) < (s.size : Int)) = false := by simp; omega
    clear hs h
    go_enter Try.func10, Try.ntmps10
    go_wp2_with fail
    refine (S1.out _).mono ?_
    rintro e w1 ⟨rfl, hb⟩
    have B1 := Lib.hid hb
    clear hb
    go_wp2_with fail
    refine (S2.out _).mono ?_
    rintro e w2 ⟨rfl, rfl⟩
    go_wp2_with fail
    refine (alive01 _).mono ?_
    rintro e w3 ⟨rfl, hb⟩
    have B3 := Lib.hid (B1.out.trans (hb.mono B1.out.size))
    clear hb B1
    go_wp2_with fail
    go_ret
    exact ⟨rfl, B3.out⟩
  · have t : decide ((16384 : Int) < (s.size : Int)) = true := by simp; omega
    clear hs h
    go_enter Try.func10, Try.ntmps10
    go_wp2_with fail
    go_ret
    exact ⟨rfl, Below.refl _ _⟩

end Go.Proofs.Ytafialodjnjihaa
