/- The chapter's examples of the words: alive returns true; and what the functions and their references answer, side by side. No condition. -/
import Derived.Test.YtafialodjnjihaaWord
import Derived.Test.YtafialodjnjihaaRefWord
import Derived.Test.YtafialodjnjihaaSum
import Derived.Test.YtafialodjnjihaaRefSum
namespace Go.Proofs.Ytafialodjnjihaa
open Go Go.RowKit
set_option maxRecDepth 100000
set_option linter.unusedVariables false

theorem put_258 (w : World) : Calls Try.prog 41 #[.int .u64 258, .int .i64 2] w fun e w' => e = .returned (.tuple #[.string ⟨#[2, 1]⟩, .int .i64 0]) ∧ Below w.heap.size w w' := by
  have h := put_ok 258 2 w (by decide) (by decide) (by decide) (by decide)
  have e : (le 2 258).toArray = #[2, 1] := by decide
  rw [e] at h
  exact h
theorem put_256 (w : World) : Calls Try.prog 41 #[.int .u64 256, .int .i64 1] w fun e w' => e = .returned (.tuple #[.string ⟨#[]⟩, .int .i64 5]) ∧ w = w' :=
  put_long 256 1 w (by decide) (by decide) (by decide) (by decide)
theorem hex_255 (w : World) : Calls Try.prog 45 #[.int .u64 255, .int .i64 4] w fun e w' => e = .returned (.tuple #[.string ⟨#[48, 48, 102, 102]⟩, .int .i64 0]) ∧ Below w.heap.size w w' := by
  have h := hex_ok 255 4 w (by decide) (by decide) (by decide) (by decide)
  have e : (hex 4 255).toArray = #[48, 48, 102, 102] := by decide
  rw [e] at h
  exact h
theorem unhex_00fF (w : World) : Calls Try.prog 47 #[.string ⟨#[48, 48, 102, 70]⟩] w fun e w' => e = .returned (.tuple #[.int .u64 0, .int .i64 2]) ∧ Below w.heap.size w w' := by
  have h := unhex_ok ⟨#[48, 48, 102, 70]⟩ w (by decide) (by decide)
  have e : unhR (⟨#[48, 48, 102, 70]⟩ : ByteArray).data.toList = (0, 2) := by decide
  rw [e] at h
  exact h
theorem get_21 (w : World) : Calls Try.prog 43 #[.string ⟨#[2, 1]⟩] w fun e w' => e = .returned (.tuple #[.int .u64 258, .int .i64 0]) ∧ w = w' := by
  have h := get_ok ⟨#[2, 1]⟩ w (by decide) (by decide)
  have e : ofLe (⟨#[2, 1]⟩ : ByteArray).data.toList = 258 := by decide
  rw [e] at h
  exact h
theorem sum_19 (w : World) : Calls Try.prog 50 #[.string ⟨#[49, 50, 51, 52, 53, 54, 55, 56, 57]⟩] w fun e w' => e = .returned (.int .u32 3421780262) ∧ Below w.heap.size w w' := by
  have h := sum_any ⟨#[49, 50, 51, 52, 53, 54, 55, 56, 57]⟩ w (by decide)
  have e : Crc.sum (bytesN ⟨#[49, 50, 51, 52, 53, 54, 55, 56, 57]⟩) = 3421780262 := by decide +kernel
  rw [e] at h
  exact h

set_option maxHeartbeats 1000000 in
theorem alive01 (w : World) : Calls Try.prog 49 #[] w fun e w' => e = .returned (.bool true) ∧ Below w.heap.size w w' := by
  go_enter Try.func49, Try.ntmps49
  go_wp2_with fail
  refine (put_258 _).mono ?_
  rintro e w1 ⟨rfl, hb⟩
  have B1 := Lib.hid hb
  clear hb
  go_wp2_with fail
  refine (put_256 _).mono ?_
  rintro e w2 ⟨rfl, rfl⟩
  go_wp2_with fail
  refine (hex_255 _).mono ?_
  rintro e w3 ⟨rfl, hb⟩
  have B3 := Lib.hid (B1.out.trans (hb.mono B1.out.size))
  clear hb B1
  go_wp2_with fail
  refine (unhex_00fF _).mono ?_
  rintro e w4 ⟨rfl, hb⟩
  have B4 := Lib.hid (B3.out.trans (hb.mono B3.out.size))
  clear hb B3
  go_wp2_with fail
  refine (get_21 _).mono ?_
  rintro e w5 ⟨rfl, rfl⟩
  go_wp2_with fail
  refine (sum_19 _).mono ?_
  rintro e w6 ⟨rfl, hb⟩
  have B6 := Lib.hid (B4.out.trans (hb.mono B4.out.size))
  clear hb B4
  go_wp2_with fail
  go_ret
  exact ⟨rfl, B6.out⟩

/-- What a call answers: a text and a number; new memory at most. -/
def Text2 (f : Nat) (args : Array Value) (s : ByteArray) (r : Int) : Prop := ∀ w, Calls Try.prog f args w fun e w' => e = .returned (.tuple #[.string s, .int .i64 r]) ∧ Below w.heap.size w w'
/-- What a call answers: a number and a number; new memory at most. -/
def Num2 (f : Nat) (args : Array Value) (v r : Int) : Prop := ∀ w, Calls Try.prog f args w fun e w' => e = .returned (.tuple #[.int .u64 v, .int .i64 r]) ∧ Below w.heap.size w w'

theorem same_below {f : Nat} {args : Array Value} {v : Ending} {w : World} (h : Calls Try.prog f args w fun e w' => e = v ∧ w = w') : Calls Try.prog f args w fun e w' => e = v ∧ Below w.heap.size w w' :=
  h.mono fun _ _ ⟨a, b⟩ => ⟨a, b ▸ Below.refl _ _⟩

theorem put_both (v : Nat) (n : Int) (hv : v < 18446744073709551616) : ∃ s r, Text2 41 #[.int .u64 v, .int .i64 n] s r ∧ Text2 42 #[.int .u64 v, .int .i64 n] s r := by
  by_cases h : n < 1 ∨ 8 < n
  · exact ⟨_, _, fun w => same_below (put_arg v n w h), fun w => same_below (refput_arg v n w h)⟩
  · obtain ⟨k, rfl⟩ := Int.eq_ofNat_of_zero_le (show 0 ≤ n by omega)
    by_cases hf : v < 2 ^ (k * 8)
    · exact ⟨_, _, fun w => put_ok v k w (by omega) (by omega) hv hf, fun w => refput_ok v k w (by omega) (by omega) hv hf⟩
    · exact ⟨_, _, fun w => same_below (put_long v k w (by omega) (by omega) hv hf), fun w => same_below (refput_long v k w (by omega) (by omega) hv hf)⟩
theorem hex_both (v : Nat) (n : Int) (hv : v < 18446744073709551616) : ∃ s r, Text2 45 #[.int .u64 v, .int .i64 n] s r ∧ Text2 46 #[.int .u64 v, .int .i64 n] s r := by
  by_cases h : n < 1 ∨ 16 < n
  · exact ⟨_, _, fun w => same_below (hex_arg v n w h), fun w => same_below (refhex_arg v n w h)⟩
  · obtain ⟨k, rfl⟩ := Int.eq_ofNat_of_zero_le (show 0 ≤ n by omega)
    by_cases hf : v < 2 ^ (k * 4)
    · exact ⟨_, _, fun w => hex_ok v k w (by omega) (by omega) hv hf, fun w => same_below (refhex_ok v k w (by omega) (by omega) hv hf)⟩
    · exact ⟨_, _, fun w => same_below (hex_long v k w (by omega) (by omega) hv hf), fun w => same_below (refhex_long v k w (by omega) (by omega) hv hf)⟩
theorem get_both (s : ByteArray) : ∃ v r, Num2 43 #[.string s] v r ∧ Num2 44 #[.string s] v r := by
  by_cases h : s.size < 1 ∨ 8 < s.size
  · exact ⟨_, _, fun w => same_below (get_arg s w h), fun w => same_below (refget_arg s w h)⟩
  · exact ⟨_, _, fun w => same_below (get_ok s w (by omega) (by omega)), fun w => same_below (refget_ok s w (by omega) (by omega))⟩
theorem unhex_both (s : ByteArray) : ∃ v r, Num2 47 #[.string s] v r ∧ Num2 48 #[.string s] v r := by
  by_cases h : s.size < 1 ∨ 16 < s.size
  · exact ⟨_, _, fun w => same_below (unhex_arg s w h), fun w => same_below (refunhex_arg s w h)⟩
  · exact ⟨_, _, fun w => unhex_ok s w (by omega) (by omega), fun w => same_below (refunhex_ok s w (by omega) (by omega))⟩

end Go.Proofs.Ytafialodjnjihaa
