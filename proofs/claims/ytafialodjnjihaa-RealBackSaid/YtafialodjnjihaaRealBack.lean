/- RealBack: what is a key leads back, what was told is read. The walk of the law. Condition: the numbers fit their kinds. -/
import Derived.Test.YtafialodjnjihaaAlive03
import Derived.Test.YtafialodjnjihaaNums
namespace Go.Proofs.Ytafialodjnjihaa
open Go Go.RowKit
set_option maxRecDepth 100000
set_option linter.unusedVariables false

theorem key_of_canon (c : Nat) : Rl.key (Rl.canon c) = Rl.key c := by unfold Rl.key; rw [Rl.canon_canon]
theorem try_key (c : Nat) (h : c < 18446744073709551616) (hc : Rl.canon c = c) : tryBack (Rl.key c) = c := by
  unfold Rl.key; rw [hc]
  unfold tryBack Rl.keyOf
  split <;> split <;> omega
theorem back_key (a : Nat) (h : a < 18446744073709551616) : back (Rl.key a) = (Rl.canon a, 0) := by
  have h1 := try_key (Rl.canon a) (Rl.canon_lt h) (Rl.canon_canon a)
  rw [key_of_canon] at h1
  unfold back
  rw [h1, if_pos (key_of_canon a)]
theorem key_lt (a : Nat) (h : a < 18446744073709551616) : Rl.key a < 18446744073709551616 := Rl.keyOf_lt (Rl.canon_lt h)
theorem text_size (a : Nat) : (textOf a).size = 16 := by simp [textOf, ByteArray.size, hex, hexP_len]
theorem read_text (a : Nat) (h : a < 18446744073709551616) : readOf (textOf a) = (Rl.canon a, 0) := by
  have hl := Rl.canon_lt h
  have e : unhA (textOf a) = (Rl.canon a, 0) := by
    unfold unhA
    rw [if_neg (by rw [text_size]; omega)]
    unfold textOf
    rw [show (⟨(hex 16 (Rl.canon a)).toArray⟩ : ByteArray).data.toList = hex 16 (Rl.canon a) by simp]
    exact unhR_hex 16 (Rl.canon a) hl
  unfold readOf
  rw [e, if_pos ⟨rfl, text_size a, Rl.canon_canon a⟩]
theorem text_canon (a : Nat) : textOf (Rl.canon a) = textOf a := by unfold textOf; rw [Rl.canon_canon]
/-- what Back finds is canonical, and its key is the one -/
theorem back_ok (k : Nat) (hk : k < 18446744073709551616) : back k = (0, 2) ∨ ∃ x, back k = (x, 0) ∧ Rl.key x = k ∧ Rl.canon x = x ∧ x < 18446744073709551616 := by
  unfold back
  by_cases h : Rl.key (tryBack k) = k
  · rw [if_pos h]
    refine .inr ⟨_, rfl, h, ?_, tryBack_lt k hk⟩
    have h1 := try_key (Rl.canon (tryBack k)) (Rl.canon_lt (tryBack_lt k hk)) (Rl.canon_canon _)
    rw [key_of_canon, h] at h1
    exact h1.symm
  · rw [if_neg h]; exact .inl rfl

set_option maxHeartbeats 2000000 in
theorem realBack_no (a k : Nat) (w : World) (ha : a < 18446744073709551616) (hk : k < 18446744073709551616) (hb : back k = (0, 2)) :
    Calls Try.prog 8 #[.int .u64 a, .int .u64 k] w fun e w' => e = .returned (.bool true) ∧ Below w.heap.size w w' := by
  have H1 := Lib.hid (fun w => canon_any a w)
  have H2 := Lib.hid (fun w => key_any a w ha)
  have H3 := Lib.hid (fun w => back_any (Rl.key a) w (key_lt a ha))
  rw [back_key a ha] at H3
  have H4 := Lib.hid (fun w => text_any a w ha)
  have H5 := Lib.hid (fun w => read_any (textOf a) w)
  rw [read_text a ha] at H5
  have H6 := Lib.hid (fun w => canon_any (Rl.canon a) w)
  rw [Rl.canon_canon] at H6
  have H7 := Lib.hid (fun w => text_any (Rl.canon a) w (Rl.canon_lt ha))
  rw [text_canon] at H7
  have H8 := Lib.hid (fun w => back_any k w hk)
  have hsz : ((textOf a).size : Int) = 16 := by rw [text_size]; rfl
  rw [hb] at H8
  clear hb
  have B0 := Lib.hid (Below.refl w.heap.size w)
  clear ha hk
  generalize Rl.canon a = cn at *
  generalize Rl.key a = ka at *
  generalize textOf a = tx at *
  go_enter Try.func8, Try.ntmps8
  go_wp2_with fail
  refine (H1.out _).mono ?_
  rintro e w1 ⟨rfl, rfl⟩
  go_wp2_with fail
  refine (H2.out _).mono ?_
  rintro e w2 ⟨rfl, rfl⟩
  go_wp2_with fail
  refine (H3.out _).mono ?_
  rintro e w3 ⟨rfl, hb⟩
  have B3 := Lib.hid (B0.out.trans (hb.mono B0.out.size))
  clear hb B0
  go_wp2_with fail
  refine (H4.out _).mono ?_
  rintro e w4 ⟨rfl, hb⟩
  have B4 := Lib.hid (B3.out.trans (hb.mono B3.out.size))
  clear hb B3
  go_wp2_with fail
  refine (H5.out _).mono ?_
  rintro e w5 ⟨rfl, hb⟩
  have B5 := Lib.hid (B4.out.trans (hb.mono B4.out.size))
  clear hb B4
  go_wp2_with fail
  refine (H6.out _).mono ?_
  rintro e w6 ⟨rfl, rfl⟩
  go_wp2_with fail
  refine (H7.out _).mono ?_
  rintro e w7 ⟨rfl, hb⟩
  have B7 := Lib.hid (B5.out.trans (hb.mono B5.out.size))
  clear hb B5
  go_wp2_with fail
  refine (H8.out _).mono ?_
  rintro e w8 ⟨rfl, hb⟩
  have B8 := Lib.hid (B7.out.trans (hb.mono B7.out.size))
  clear hb B7
  go_wp2_with fail
  refine (alive03 _).mono ?_
  rintro e w9 ⟨rfl, hb⟩
  have B9 := Lib.hid (B8.out.trans (hb.mono B8.out.size))
  clear hb B8
  go_wp2_with fail
  go_ret
  exact ⟨rfl, B9.out⟩

set_option maxHeartbeats 2000000 in
theorem realBack_yes (a k : Nat) (w : World) (ha : a < 18446744073709551616) (hk : k < 18446744073709551616) (x : Nat) (hb : back k = (x, 0)) (hx : Rl.key x = k) (hc : Rl.canon x = x) (hxl : x < 18446744073709551616) :
    Calls Try.prog 8 #[.int .u64 a, .int .u64 k] w fun e w' => e = .returned (.bool true) ∧ Below w.heap.size w w' := by
  have H1 := Lib.hid (fun w => canon_any a w)
  have H2 := Lib.hid (fun w => key_any a w ha)
  have H3 := Lib.hid (fun w => back_any (Rl.key a) w (key_lt a ha))
  rw [back_key a ha] at H3
  have H4 := Lib.hid (fun w => text_any a w ha)
  have H5 := Lib.hid (fun w => read_any (textOf a) w)
  rw [read_text a ha] at H5
  have H6 := Lib.hid (fun w => canon_any (Rl.canon a) w)
  rw [Rl.canon_canon] at H6
  have H7 := Lib.hid (fun w => text_any (Rl.canon a) w (Rl.canon_lt ha))
  rw [text_canon] at H7
  have H8 := Lib.hid (fun w => back_any k w hk)
  have hsz : ((textOf a).size : Int) = 16 := by rw [text_size]; rfl
  rw [hb] at H8
  have H9 := Lib.hid (fun w => key_any x w hxl)
  rw [hx] at H9
  have H10 := Lib.hid (fun w => canon_any x w)
  rw [hc] at H10
  clear hb hx hc hxl
  have B0 := Lib.hid (Below.refl w.heap.size w)
  clear ha hk
  generalize Rl.canon a = cn at *
  generalize Rl.key a = ka at *
  generalize textOf a = tx at *
  go_enter Try.func8, Try.ntmps8
  go_wp2_with fail
  refine (H1.out _).mono ?_
  rintro e w1 ⟨rfl, rfl⟩
  go_wp2_with fail
  refine (H2.out _).mono ?_
  rintro e w2 ⟨rfl, rfl⟩
  go_wp2_with fail
  refine (H3.out _).mono ?_
  rintro e w3 ⟨rfl, hb⟩
  have B3 := Lib.hid (B0.out.trans (hb.mono B0.out.size))
  clear hb B0
  go_wp2_with fail
  refine (H4.out _).mono ?_
  rintro e w4 ⟨rfl, hb⟩
  have B4 := Lib.hid (B3.out.trans (hb.mono B3.out.size))
  clear hb B3
  go_wp2_with fail
  refine (H5.out _).mono ?_
  rintro e w5 ⟨rfl, hb⟩
  have B5 := Lib.hid (B4.out.trans (hb.mono B4.out.size))
  clear hb B4
  go_wp2_with fail
  refine (H6.out _).mono ?_
  rintro e w6 ⟨rfl, rfl⟩
  go_wp2_with fail
  refine (H7.out _).mono ?_
  rintro e w7 ⟨rfl, hb⟩
  have B7 := Lib.hid (B5.out.trans (hb.mono B5.out.size))
  clear hb B5
  go_wp2_with fail
  refine (H8.out _).mono ?_
  rintro e w8 ⟨rfl, hb⟩
  have B8 := Lib.hid (B7.out.trans (hb.mono B7.out.size))
  clear hb B7
  go_wp2_with fail
  refine (H9.out _).mono ?_
  rintro e w9 ⟨rfl, rfl⟩
  go_wp2_with fail
  refine (H10.out _).mono ?_
  rintro e w10 ⟨rfl, rfl⟩
  go_wp2_with fail
  refine (alive03 _).mono ?_
  rintro e w11 ⟨rfl, hb⟩
  have B11 := Lib.hid (B8.out.trans (hb.mono B8.out.size))
  clear hb B8
  go_wp2_with fail
  go_ret
  exact ⟨rfl, B11.out⟩

theorem realBack_walk (x0 : Int) (wf0 : (Lit.int .u64 x0).wf = true) (x1 : Int) (wf1 : (Lit.int .u64 x1).wf = true) (w : World) :
    Calls Try.prog 8 #[.int .u64 x0, .int .u64 x1] w fun e w' => e = .returned (.bool true) ∧ Below w.heap.size w w' := by
  obtain ⟨a, rfl, ha⟩ := u64_nat wf0
  obtain ⟨k, rfl, hk⟩ := u64_nat wf1
  rcases back_ok k hk with hb | ⟨x, hb, hx, hc, hxl⟩
  · exact realBack_no a k w ha hk hb
  · exact realBack_yes a k w ha hk x hb hx hc hxl

end Go.Proofs.Ytafialodjnjihaa
