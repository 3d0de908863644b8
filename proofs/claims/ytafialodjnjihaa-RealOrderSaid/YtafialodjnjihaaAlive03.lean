/- The chapter's examples of the reals: alive returns true. No condition. -/
import Derived.Test.YtafialodjnjihaaRefReal
namespace Go.Proofs.Ytafialodjnjihaa
open Go Go.RowKit
set_option maxRecDepth 100000
set_option linter.unusedVariables false

theorem back_7f (w : World) : Calls Try.prog 27 #[.int .u64 9223372036854775807] w fun e w' => e = .returned (.tuple #[.int .u64 9223372036854775808, .int .i64 0]) ∧ Below w.heap.size w w' := by
  have h := back_any 9223372036854775807 w (by decide)
  have e : back 9223372036854775807 = (9223372036854775808, 0) := by decide +kernel
  rw [e] at h
  exact h
theorem back_ff (w : World) : Calls Try.prog 27 #[.int .u64 18446744073709551615] w fun e w' => e = .returned (.tuple #[.int .u64 0, .int .i64 2]) ∧ Below w.heap.size w w' := by
  have h := back_any 18446744073709551615 w (by decide)
  have e : back 18446744073709551615 = (0, 2) := by decide +kernel
  rw [e] at h
  exact h
theorem read_7f (w : World) : Calls Try.prog 29 #[.string ⟨#[55, 102, 102, 48, 48, 48, 48, 48, 48, 48, 48, 48, 48, 48, 48, 49]⟩] w fun e w' => e = .returned (.tuple #[.int .u64 0, .int .i64 2]) ∧ Below w.heap.size w w' := by
  have h := read_any ⟨#[55, 102, 102, 48, 48, 48, 48, 48, 48, 48, 48, 48, 48, 48, 48, 49]⟩ w
  have e : readOf ⟨#[55, 102, 102, 48, 48, 48, 48, 48, 48, 48, 48, 48, 48, 48, 48, 49]⟩ = (0, 2) := by decide +kernel
  rw [e] at h
  exact h
theorem canon_ff (w : World) : Calls Try.prog 31 #[.int .u64 18442240474082181121] w fun e w' => e = .returned (.int .u64 9221120237041090561) ∧ w = w' := by
  have h := canon_any 18442240474082181121 w
  have e : Rl.canon 18442240474082181121 = 9221120237041090561 := by decide +kernel
  rw [e] at h
  exact h
theorem less_80 (w : World) : Calls Try.prog 33 #[.int .u64 9223372036854775808, .int .u64 0] w fun e w' => e = .returned (.bool true) ∧ w = w' := by
  have h := less_any 9223372036854775808 0 w (by decide) (by decide)
  have e : decide (Rl.key 9223372036854775808 < Rl.key 0) = true := by decide +kernel
  rw [e] at h
  exact h
theorem less_00 (w : World) : Calls Try.prog 33 #[.int .u64 0, .int .u64 0] w fun e w' => e = .returned (.bool false) ∧ w = w' := by
  have h := less_any 0 0 w (by decide) (by decide)
  have e : decide (Rl.key 0 < Rl.key 0) = false := by decide +kernel
  rw [e] at h
  exact h
theorem key_0 (w : World) : Calls Try.prog 35 #[.int .u64 0] w fun e w' => e = .returned (.int .u64 9223372036854775808) ∧ w = w' := by
  have h := key_any 0 w (by decide)
  have e : Rl.key 0 = 9223372036854775808 := by decide +kernel
  rw [e] at h
  exact h
theorem text_0 (w : World) : Calls Try.prog 37 #[.int .u64 0] w fun e w' => e = .returned (.string ⟨#[48, 48, 48, 48, 48, 48, 48, 48, 48, 48, 48, 48, 48, 48, 48, 48]⟩) ∧ Below w.heap.size w w' := by
  have h := text_any 0 w (by decide)
  have e : textOf 0 = ⟨#[48, 48, 48, 48, 48, 48, 48, 48, 48, 48, 48, 48, 48, 48, 48, 48]⟩ := by decide +kernel
  rw [e] at h
  exact h

set_option maxHeartbeats 1000000 in
theorem alive03 (w : World) : Calls Try.prog 39 #[] w fun e w' => e = .returned (.bool true) ∧ Below w.heap.size w w' := by
  go_enter Try.func39, Try.ntmps39
  go_wp2_with fail
  refine (back_7f _).mono ?_
  rintro e w1 ⟨rfl, hb⟩
  have B1 := Lib.hid hb
  clear hb
  go_wp2_with fail
  refine (back_ff _).mono ?_
  rintro e w2 ⟨rfl, hb⟩
  have B2 := Lib.hid (B1.out.trans (hb.mono B1.out.size))
  clear hb B1
  go_wp2_with fail
  refine (read_7f _).mono ?_
  rintro e w3 ⟨rfl, hb⟩
  have B3 := Lib.hid (B2.out.trans (hb.mono B2.out.size))
  clear hb B2
  go_wp2_with fail
  refine (canon_ff _).mono ?_
  rintro e w4 ⟨rfl, rfl⟩
  go_wp2_with fail
  refine (less_80 _).mono ?_
  rintro e w5 ⟨rfl, rfl⟩
  go_wp2_with fail
  refine (less_00 _).mono ?_
  rintro e w6 ⟨rfl, rfl⟩
  go_wp2_with fail
  refine (key_0 _).mono ?_
  rintro e w7 ⟨rfl, rfl⟩
  go_wp2_with fail
  refine (text_0 _).mono ?_
  rintro e w8 ⟨rfl, hb⟩
  have B8 := Lib.hid (B3.out.trans (hb.mono B3.out.size))
  clear hb B3
  go_wp2_with fail
  go_ret
  exact ⟨rfl, B8.out⟩

end Go.Proofs.Ytafialodjnjihaa
