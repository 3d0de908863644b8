/- Frames, one: Put, the reference's Put, the text of the frame with which bytes begin. No condition. -/
import Derived.Test.YtafialodjnjihaaSum
import Derived.Test.YtafialodjnjihaaRefSum
import Derived.Test.YtafialodjnjihaaWord
import Derived.Test.YtafialodjnjihaaRefWord
import Derived.Test.YtafialodjnjihaaWordBack
import Derived.Test.YtafialodjnjihaaBox
import Derived.Test.YtafialodjnjihaaRow
import Derived.BigQuiet
import Derived.Test.YtafialodjnjihaaLater
namespace Go.Proofs.Ytafialodjnjihaa
open Go Go.RowKit Go.BigFrame
set_option maxRecDepth 100000
set_option linter.unusedVariables false

def four (v : Nat) : ByteArray := ⟨(le 4 v).toArray⟩
def sumB (s : ByteArray) : Nat := Crc.sum (bytesN s)
def num (s : ByteArray) : Nat := ofLe s.data.toList
theorem sumB_lt (s : ByteArray) : sumB s < 4294967296 := Crc.sum_lt _ (bytesN_lt s)
theorem four_size (v : Nat) : (four v).size = 4 := by simp [four, ByteArray.size, le_len]
theorem num_lt (s : ByteArray) (h : s.size = 4) : num s < 4294967296 := by
  have := ofLe_lt s.data.toList
  rw [len_list, h] at this
  exact this

theorem put4 (v : Nat) (w : World) (hv : v < 4294967296) :
    Calls Try.prog 73 #[.int .u32 v] w fun e w' => e = .returned (.string (four v)) ∧ Below w.heap.size w w' := by
  have C := box (fun W => put_ok v 4 W (by decide) (by decide) (by omega) (by omega))
  have e1 : IntKind.u64.wrap (v : Int) = (v : Int) := by rw [IntKind.wrap_u64]; omega
  clear hv
  go_enter Try.func73, Try.ntmps73
  go_wp2_with fail
  refine (C.out _).mono ?_
  rintro e w1 ⟨rfl, hb⟩
  go_wp2_with fail
  go_ret
  exact ⟨rfl, hb⟩
theorem rput4 (v : Nat) (w : World) (hv : v < 4294967296) :
    Calls Try.prog 74 #[.int .u32 v] w fun e w' => e = .returned (.string (four v)) ∧ Below w.heap.size w w' := by
  have C := box (fun W => refput_ok v 4 W (by decide) (by decide) (by omega) (by omega))
  have e1 : IntKind.u64.wrap (v : Int) = (v : Int) := by rw [IntKind.wrap_u64]; omega
  clear hv
  go_enter Try.func74, Try.ntmps74
  go_wp2_with fail
  refine (C.out _).mono ?_
  rintro e w1 ⟨rfl, hb⟩
  go_wp2_with fail
  go_ret
  exact ⟨rfl, hb⟩
theorem get4 (s : ByteArray) (w : World) (hs : s.size = 4) :
    Calls Try.prog 81 #[.string s] w fun e w' => e = .returned (.int .u32 (num s)) ∧ w = w' := by
  have C := box (get_ok s w (by omega) (by omega))
  have e1 : IntKind.u32.wrap ((ofLe s.data.toList : Nat) : Int) = ((num s : Nat) : Int) := by have := num_lt s hs; rw [IntKind.wrap_u32]; unfold num at *; omega
  clear hs
  go_enter Try.func81, Try.ntmps81
  go_wp2_with fail
  refine (C.out).mono ?_
  rintro e w1 ⟨rfl, rfl⟩
  go_wp2_with fail
  go_ret
  exact ⟨rfl, rfl⟩

def head (s : ByteArray) : ByteArray := four s.size ++ four (sumB (four s.size)) ++ four (sumB s)
def frame (s : ByteArray) : ByteArray := head s ++ s

theorem framePut_ok (s : ByteArray) (w : World) (hs : ¬ (4194304 : Int) < (s.size : Int)) :
    Calls Try.prog 57 #[.string s] w fun e w' => e = .returned (.tuple #[.string (frame s), .int .i64 0]) ∧ Below w.heap.size w w' := by
  have C1 := box (fun W => put4 s.size W (by omega))
  have C2 := box (fun W => sum_any (four s.size) W (by rw [four_size]; decide))
  have C3 := box (fun W => put4 (sumB (four s.size)) W (sumB_lt _))
  have C4 := box (fun W => sum_any s W (by omega))
  have C5 := box (fun W => put4 (sumB s) W (sumB_lt _))
  have e1 : IntKind.u32.wrap (s.size : Int) = (s.size : Int) := by rw [IntKind.wrap_u32]; omega
  have z1 := four_size s.size
  have z2 := four_size (sumB (four s.size))
  have z3 := four_size (sumB s)
  go_enter Try.func57, Try.ntmps57
  go_wp2_with fail
  refine (C1.out _).mono ?_
  rintro e w1 ⟨rfl, hb1⟩
  have B1 := box hb1
  clear hb1
  go_wp2_with fail
  refine (C2.out _).mono ?_
  rintro e w2 ⟨rfl, hb2⟩
  have B2 := box (B1.out.trans (hb2.mono B1.out.size))
  clear hb2
  go_wp2_with fail
  refine (C3.out _).mono ?_
  rintro e w3 ⟨rfl, hb3⟩
  have B3 := box (B2.out.trans (hb3.mono B2.out.size))
  clear hb3
  go_wp2_with fail
  refine (C4.out _).mono ?_
  rintro e w4 ⟨rfl, hb4⟩
  have B4 := box (B3.out.trans (hb4.mono B3.out.size))
  clear hb4
  go_wp2_with fail
  refine (C5.out _).mono ?_
  rintro e w5 ⟨rfl, hb5⟩
  have B5 := box (B4.out.trans (hb5.mono B4.out.size))
  clear hb5
  go_wp2_with fail
  go_ret2
  exact ⟨rfl, B5.out⟩
theorem framePut_long (s : ByteArray) (w : World) (hs : (4194304 : Int) < (s.size : Int)) :
    Calls Try.prog 57 #[.string s] w fun e w' => e = .returned (.tuple #[.string ⟨#[]⟩, .int .i64 5]) ∧ w = w' := by
  go_enter Try.func57, Try.ntmps57
  go_wp2_with fail
  go_ret2
  exact ⟨rfl, rfl⟩
theorem refPut_ok (s : ByteArray) (w : World) (hs : ¬ (4194304 : Int) < (s.size : Int)) :
    Calls Try.prog 58 #[.string s] w fun e w' => e = .returned (.tuple #[.string (frame s), .int .i64 0]) ∧ Below w.heap.size w w' := by
  have C1 := box (fun W => rput4 s.size W (by omega))
  have C2 := box (fun W => refsum_any (four s.size) W (by rw [four_size]; decide))
  have C3 := box (fun W => rput4 (sumB (four s.size)) W (sumB_lt _))
  have C4 := box (fun W => refsum_any s W (by omega))
  have C5 := box (fun W => rput4 (sumB s) W (sumB_lt _))
  have e1 : IntKind.u32.wrap (s.size : Int) = (s.size : Int) := by rw [IntKind.wrap_u32]; omega
  have z1 := four_size s.size
  have z2 := four_size (sumB (four s.size))
  have z3 := four_size (sumB s)
  go_enter Try.func58, Try.ntmps58
  go_wp2_with fail
  refine (C1.out _).mono ?_
  rintro e w1 ⟨rfl, hb1⟩
  have B1 := box hb1
  clear hb1
  go_wp2_with fail
  refine (C2.out _).mono ?_
  rintro e w2 ⟨rfl, rfl⟩
  go_wp2_with fail
  refine (C3.out _).mono ?_
  rintro e w3 ⟨rfl, hb3⟩
  have B3 := box (B1.out.trans (hb3.mono B1.out.size))
  clear hb3
  go_wp2_with fail
  refine (C4.out _).mono ?_
  rintro e w4 ⟨rfl, rfl⟩
  go_wp2_with fail
  refine (C5.out _).mono ?_
  rintro e w5 ⟨rfl, hb5⟩
  have B5 := box (B3.out.trans (hb5.mono B3.out.size))
  clear hb5
  go_wp2_with fail
  go_ret2
  exact ⟨rfl, B5.out⟩
theorem refPut_long (s : ByteArray) (w : World) (hs : (4194304 : Int) < (s.size : Int)) :
    Calls Try.prog 58 #[.string s] w fun e w' => e = .returned (.tuple #[.string ⟨#[]⟩, .int .i64 5]) ∧ w = w' := by
  go_enter Try.func58, Try.ntmps58
  go_wp2_with fail
  go_ret2
  exact ⟨rfl, rfl⟩

/-- The text of the frame with which bytes begin. -/
def nxt (b : ByteArray) : ByteArray × Nat :=
  if b.size < 8 then (⟨#[]⟩, 70)
  else if sumB (b.extract 0 4) ≠ num (b.extract 4 8) ∨ 4194304 < num (b.extract 0 4) then (⟨#[]⟩, 71)
  else if b.size < 12 + num (b.extract 0 4) then (⟨#[]⟩, 70)
  else if sumB (b.extract 12 (12 + num (b.extract 0 4))) ≠ num (b.extract 8 12) then (⟨#[]⟩, 71)
  else (b.extract 12 (12 + num (b.extract 0 4)), 0)

theorem next_short (b : ByteArray) (w : World) (h : (b.size : Int) < 8) :
    Calls Try.prog 79 #[.string b] w fun e w' => e = .returned (.tuple #[.string ⟨#[]⟩, .int .i64 70]) ∧ w = w' := by
  go_enter Try.func79, Try.ntmps79
  go_wp2_with fail
  go_ret2
  exact ⟨rfl, rfl⟩

set_option maxHeartbeats 4000000 in
theorem next_bad1 (b : ByteArray) (w : World) (hm : b.size ≤ maxLen) (h : ¬ (b.size : Int) < 8) (hb : sumB (b.extract 0 4) ≠ num (b.extract 4 8)) :
    Calls Try.prog 79 #[.string b] w fun e w' => e = .returned (.tuple #[.string ⟨#[]⟩, .int .i64 71]) ∧ Below w.heap.size w w' := by
  have s1 : (b.extract 0 4).size = 4 := by simp [ByteArray.size_extract]; omega
  have s2 : (b.extract 4 8).size = 4 := by simp [ByteArray.size_extract]; omega
  have hN := num_lt _ s1
  have C1 := box (fun W => get4 (b.extract 0 4) W s1)
  have C2 := box (fun W => get4 (b.extract 4 8) W s2)
  have C3 : Box (∀ W, Calls Try.prog 50 #[.string (b.extract 0 4)] W fun e w' => e = .returned (.int .u32 (sumB (b.extract 0 4) : Nat)) ∧ Below W.heap.size W w') := box (fun W => sum_any (b.extract 0 4) W (by omega))
  have MX := box hm
  generalize sumB (b.extract 0 4) = S4 at *
  generalize num (b.extract 4 8) = N4 at *
  generalize num (b.extract 0 4) = N at *
  clear hm s1 s2
  have t1 : ((S4 : Int) != (N4 : Int)) = true := by simp; omega
  have t2 : (S4 != N4) = true := by simpa using hb
  have h4 : (4 : Int) ≤ (b.size : Int) := by omega
  have h8 : (8 : Int) ≤ (b.size : Int) := by omega
  have h4' : 4 ≤ b.size := by omega
  have h8' : 8 ≤ b.size := by omega
  have w64 : wrap64 (N : Int) = (N : Int) := by unfold wrap64; omega
  go_enter Try.func79, Try.ntmps79
  go_wp2_with fail
  refine (C1.out _).mono ?_
  rintro e w1 ⟨rfl, rfl⟩
  go_wp2_with fail
  refine wp_region_later w (by kernel_rfl) (by kernel_rfl) (Below.refl _ _) ?_
  repeat (go_big_quiet_step (first | (go_at_call 50; exact Calls.later (C3.out _)) | (go_at_call 81; exact Calls.laterSame (C2.out _))))
  refine wpQuiet_nil ?_
  rintro _ ⟨nq, rfl⟩
  go_wp2_with fail
  go_ret2
  exact ⟨rfl, nq.below⟩

set_option maxHeartbeats 4000000 in
theorem next_bad2 (b : ByteArray) (w : World) (hm : b.size ≤ maxLen) (h : ¬ (b.size : Int) < 8) (hb : sumB (b.extract 0 4) = num (b.extract 4 8)) (hl : 4194304 < num (b.extract 0 4)) :
    Calls Try.prog 79 #[.string b] w fun e w' => e = .returned (.tuple #[.string ⟨#[]⟩, .int .i64 71]) ∧ Below w.heap.size w w' := by
  have s1 : (b.extract 0 4).size = 4 := by simp [ByteArray.size_extract]; omega
  have s2 : (b.extract 4 8).size = 4 := by simp [ByteArray.size_extract]; omega
  have hN := num_lt _ s1
  have C1 := box (fun W => get4 (b.extract 0 4) W s1)
  have C2 := box (fun W => get4 (b.extract 4 8) W s2)
  have C3 : Box (∀ W, Calls Try.prog 50 #[.string (b.extract 0 4)] W fun e w' => e = .returned (.int .u32 (sumB (b.extract 0 4) : Nat)) ∧ Below W.heap.size W w') := box (fun W => sum_any (b.extract 0 4) W (by omega))
  have MX := box hm
  generalize sumB (b.extract 0 4) = S4 at *
  generalize num (b.extract 4 8) = N4 at *
  generalize num (b.extract 0 4) = N at *
  clear hm s1 s2
  subst hb
  have t1 : ((S4 : Int) != (S4 : Int)) = false := by simp
  have t2 : (S4 != S4) = false := by simp
  have t3 : (4194304 : Int) < (N : Int) := by omega
  have h4 : (4 : Int) ≤ (b.size : Int) := by omega
  have h8 : (8 : Int) ≤ (b.size : Int) := by omega
  have h4' : 4 ≤ b.size := by omega
  have h8' : 8 ≤ b.size := by omega
  have w64 : wrap64 (N : Int) = (N : Int) := by unfold wrap64; omega
  go_enter Try.func79, Try.ntmps79
  go_wp2_with fail
  refine (C1.out _).mono ?_
  rintro e w1 ⟨rfl, rfl⟩
  go_wp2_with fail
  refine wp_region_later w (by kernel_rfl) (by kernel_rfl) (Below.refl _ _) ?_
  repeat (go_big_quiet_step (first | (go_at_call 50; exact Calls.later (C3.out _)) | (go_at_call 81; exact Calls.laterSame (C2.out _))))
  refine wpQuiet_nil ?_
  rintro _ ⟨nq, rfl⟩
  go_wp2_with fail
  go_ret2
  exact ⟨rfl, nq.below⟩

set_option maxHeartbeats 4000000 in
theorem next_torn (b : ByteArray) (w : World) (hm : b.size ≤ maxLen) (h : ¬ (b.size : Int) < 8) (hb : sumB (b.extract 0 4) = num (b.extract 4 8)) (hl : ¬ 4194304 < num (b.extract 0 4)) (ht : b.size < 12 + num (b.extract 0 4)) :
    Calls Try.prog 79 #[.string b] w fun e w' => e = .returned (.tuple #[.string ⟨#[]⟩, .int .i64 70]) ∧ Below w.heap.size w w' := by
  have s1 : (b.extract 0 4).size = 4 := by simp [ByteArray.size_extract]; omega
  have s2 : (b.extract 4 8).size = 4 := by simp [ByteArray.size_extract]; omega
  have hN := num_lt _ s1
  have C1 := box (fun W => get4 (b.extract 0 4) W s1)
  have C2 := box (fun W => get4 (b.extract 4 8) W s2)
  have C3 : Box (∀ W, Calls Try.prog 50 #[.string (b.extract 0 4)] W fun e w' => e = .returned (.int .u32 (sumB (b.extract 0 4) : Nat)) ∧ Below W.heap.size W w') := box (fun W => sum_any (b.extract 0 4) W (by omega))
  have MX := box hm
  generalize sumB (b.extract 0 4) = S4 at *
  generalize num (b.extract 4 8) = N4 at *
  generalize num (b.extract 0 4) = N at *
  clear hm s1 s2
  subst hb
  have t1 : ((S4 : Int) != (S4 : Int)) = false := by simp
  have t2 : (S4 != S4) = false := by simp
  have t3 : ¬ (4194304 : Int) < (N : Int) := by omega
  have t4 : (b.size : Int) < 12 + (N : Int) := by omega
  have h4 : (4 : Int) ≤ (b.size : Int) := by omega
  have h8 : (8 : Int) ≤ (b.size : Int) := by omega
  have h4' : 4 ≤ b.size := by omega
  have h8' : 8 ≤ b.size := by omega
  have w64 : wrap64 (N : Int) = (N : Int) := by unfold wrap64; omega
  go_enter Try.func79, Try.ntmps79
  go_wp2_with fail
  refine (C1.out _).mono ?_
  rintro e w1 ⟨rfl, rfl⟩
  go_wp2_with fail
  refine wp_region_later w (by kernel_rfl) (by kernel_rfl) (Below.refl _ _) ?_
  repeat (go_big_quiet_step (first | (go_at_call 50; exact Calls.later (C3.out _)) | (go_at_call 81; exact Calls.laterSame (C2.out _))))
  refine wpQuiet_nil ?_
  rintro _ ⟨nq, rfl⟩
  go_wp2_with fail
  go_ret2
  exact ⟨rfl, nq.below⟩

set_option maxHeartbeats 4000000 in
theorem next_bad3 (b : ByteArray) (w : World) (hm : b.size ≤ maxLen) (h : ¬ (b.size : Int) < 8) (hb : sumB (b.extract 0 4) = num (b.extract 4 8)) (hl : ¬ 4194304 < num (b.extract 0 4)) (ht : ¬ b.size < 12 + num (b.extract 0 4)) (hc : sumB (b.extract 12 (12 + num (b.extract 0 4))) ≠ num (b.extract 8 12)) :
    Calls Try.prog 79 #[.string b] w fun e w' => e = .returned (.tuple #[.string ⟨#[]⟩, .int .i64 71]) ∧ Below w.heap.size w w' := by
  have s1 : (b.extract 0 4).size = 4 := by simp [ByteArray.size_extract]; omega
  have s2 : (b.extract 4 8).size = 4 := by simp [ByteArray.size_extract]; omega
  have hN := num_lt _ s1
  have C1 := box (fun W => get4 (b.extract 0 4) W s1)
  have C2 := box (fun W => get4 (b.extract 4 8) W s2)
  have C3 : Box (∀ W, Calls Try.prog 50 #[.string (b.extract 0 4)] W fun e w' => e = .returned (.int .u32 (sumB (b.extract 0 4) : Nat)) ∧ Below W.heap.size W w') := box (fun W => sum_any (b.extract 0 4) W (by omega))
  have MX := box hm
  have s3 : (b.extract 8 12).size = 4 := by simp [ByteArray.size_extract]; omega
  have C4 := box (fun W => get4 (b.extract 8 12) W s3)
  have C5 : Box (∀ W, Calls Try.prog 50 #[.string (b.extract 12 (12 + num (b.extract 0 4)))] W fun e w' => e = .returned (.int .u32 (sumB (b.extract 12 (12 + num (b.extract 0 4))) : Nat)) ∧ Below W.heap.size W w') :=
    box (fun W => sum_any _ W (by simp [ByteArray.size_extract]; unfold maxLen at hm; omega))
  generalize sumB (b.extract 12 (12 + num (b.extract 0 4))) = S5 at *
  generalize num (b.extract 8 12) = N5 at *
  clear s3
  generalize sumB (b.extract 0 4) = S4 at *
  generalize num (b.extract 4 8) = N4 at *
  generalize num (b.extract 0 4) = N at *
  clear hm s1 s2
  subst hb
  have t1 : ((S4 : Int) != (S4 : Int)) = false := by simp
  have t2 : (S4 != S4) = false := by simp
  have t3 : ¬ (4194304 : Int) < (N : Int) := by omega
  have t4 : ¬ (b.size : Int) < 12 + (N : Int) := by omega
  have t12 : (12 : Int) + (N : Int) ≤ (b.size : Int) := by omega
  have t13 : (0 : Int) ≤ 12 + (N : Int) := by omega
  have t14 : (12 : Int) ≤ 12 + (N : Int) := by omega
  have t15 : ((12 : Int) + (N : Int)).toNat = 12 + N := by omega
  have t16 : (12 : Int) ≤ (b.size : Int) := by omega
  have t17 : 12 ≤ b.size := by omega
  have t18 : IntKind.i64.wrap ((12 : Int) + (N : Int)) = 12 + (N : Int) := by rw [IntKind.wrap_i64]; omega
  have t19 : wrap64 ((12 : Int) + (N : Int)) = 12 + (N : Int) := by unfold wrap64; omega
  have t5 : ((S5 : Int) != (N5 : Int)) = true := by simp; omega
  have t6 : (S5 != N5) = true := by simpa using hc
  have h4 : (4 : Int) ≤ (b.size : Int) := by omega
  have h8 : (8 : Int) ≤ (b.size : Int) := by omega
  have h4' : 4 ≤ b.size := by omega
  have h8' : 8 ≤ b.size := by omega
  have w64 : wrap64 (N : Int) = (N : Int) := by unfold wrap64; omega
  go_enter Try.func79, Try.ntmps79
  go_wp2_with fail
  refine (C1.out _).mono ?_
  rintro e w1 ⟨rfl, rfl⟩
  go_wp2_with fail
  refine wp_region_later w (by kernel_rfl) (by kernel_rfl) (Below.refl _ _) ?_
  repeat (go_big_quiet_step (first | (go_at_call 50; exact Calls.later (C3.out _)) | (go_at_call 81; exact Calls.laterSame (C2.out _))))
  refine wpQuiet_nil ?_
  rintro _ ⟨nq, rfl⟩
  go_wp2_with fail
  refine wp_region_later w (by kernel_rfl) (by kernel_rfl) nq.below ?_
  repeat (go_big_quiet_step (first | (go_at_call 50; exact Calls.later (C5.out _)) | (go_at_call 81; exact Calls.laterSame (C4.out _))))
  refine wpQuiet_nil ?_
  rintro _ ⟨nq2, rfl⟩
  go_wp2_with fail
  go_ret2
  exact ⟨rfl, nq2.below⟩

set_option maxHeartbeats 4000000 in
theorem next_ok (b : ByteArray) (w : World) (hm : b.size ≤ maxLen) (h : ¬ (b.size : Int) < 8) (hb : sumB (b.extract 0 4) = num (b.extract 4 8)) (hl : ¬ 4194304 < num (b.extract 0 4)) (ht : ¬ b.size < 12 + num (b.extract 0 4)) (hc : sumB (b.extract 12 (12 + num (b.extract 0 4))) = num (b.extract 8 12)) :
    Calls Try.prog 79 #[.string b] w fun e w' => e = .returned (.tuple #[.string (b.extract 12 (12 + num (b.extract 0 4))), .int .i64 0]) ∧ Below w.heap.size w w' := by
  have s1 : (b.extract 0 4).size = 4 := by simp [ByteArray.size_extract]; omega
  have s2 : (b.extract 4 8).size = 4 := by simp [ByteArray.size_extract]; omega
  have hN := num_lt _ s1
  have C1 := box (fun W => get4 (b.extract 0 4) W s1)
  have C2 := box (fun W => get4 (b.extract 4 8) W s2)
  have C3 : Box (∀ W, Calls Try.prog 50 #[.string (b.extract 0 4)] W fun e w' => e = .returned (.int .u32 (sumB (b.extract 0 4) : Nat)) ∧ Below W.heap.size W w') := box (fun W => sum_any (b.extract 0 4) W (by omega))
  have MX := box hm
  have s3 : (b.extract 8 12).size = 4 := by simp [ByteArray.size_extract]; omega
  have C4 := box (fun W => get4 (b.extract 8 12) W s3)
  have C5 : Box (∀ W, Calls Try.prog 50 #[.string (b.extract 12 (12 + num (b.extract 0 4)))] W fun e w' => e = .returned (.int .u32 (sumB (b.extract 12 (12 + num (b.extract 0 4))) : Nat)) ∧ Below W.heap.size W w') :=
    box (fun W => sum_any _ W (by simp [ByteArray.size_extract]; unfold maxLen at hm; omega))
  generalize sumB (b.extract 12 (12 + num (b.extract 0 4))) = S5 at *
  generalize num (b.extract 8 12) = N5 at *
  clear s3
  generalize sumB (b.extract 0 4) = S4 at *
  generalize num (b.extract 4 8) = N4 at *
  generalize num (b.extract 0 4) = N at *
  clear hm s1 s2
  subst hb
  have t1 : ((S4 : Int) != (S4 : Int)) = false := by simp
  have t2 : (S4 != S4) = false := by simp
  have t3 : ¬ (4194304 : Int) < (N : Int) := by omega
  have t4 : ¬ (b.size : Int) < 12 + (N : Int) := by omega
  have t12 : (12 : Int) + (N : Int) ≤ (b.size : Int) := by omega
  have t13 : (0 : Int) ≤ 12 + (N : Int) := by omega
  have t14 : (12 : Int) ≤ 12 + (N : Int) := by omega
  have t15 : ((12 : Int) + (N : Int)).toNat = 12 + N := by omega
  have t16 : (12 : Int) ≤ (b.size : Int) := by omega
  have t17 : 12 ≤ b.size := by omega
  have t18 : IntKind.i64.wrap ((12 : Int) + (N : Int)) = 12 + (N : Int) := by rw [IntKind.wrap_i64]; omega
  have t19 : wrap64 ((12 : Int) + (N : Int)) = 12 + (N : Int) := by unfold wrap64; omega
  subst hc
  have t5 : ((S5 : Int) != (S5 : Int)) = false := by simp
  have t6 : (S5 != S5) = false := by simp
  have h4 : (4 : Int) ≤ (b.size : Int) := by omega
  have h8 : (8 : Int) ≤ (b.size : Int) := by omega
  have h4' : 4 ≤ b.size := by omega
  have h8' : 8 ≤ b.size := by omega
  have w64 : wrap64 (N : Int) = (N : Int) := by unfold wrap64; omega
  go_enter Try.func79, Try.ntmps79
  go_wp2_with fail
  refine (C1.out _).mono ?_
  rintro e w1 ⟨rfl, rfl⟩
  go_wp2_with fail
  refine wp_region_later w (by kernel_rfl) (by kernel_rfl) (Below.refl _ _) ?_
  repeat (go_big_quiet_step (first | (go_at_call 50; exact Calls.later (C3.out _)) | (go_at_call 81; exact Calls.laterSame (C2.out _))))
  refine wpQuiet_nil ?_
  rintro _ ⟨nq, rfl⟩
  go_wp2_with fail
  refine wp_region_later w (by kernel_rfl) (by kernel_rfl) nq.below ?_
  repeat (go_big_quiet_step (first | (go_at_call 50; exact Calls.later (C5.out _)) | (go_at_call 81; exact Calls.laterSame (C4.out _))))
  refine wpQuiet_nil ?_
  rintro _ ⟨nq2, rfl⟩
  go_wp2_with fail
  go_ret2
  exact ⟨rfl, nq2.below⟩

theorem frameNext_any (b : ByteArray) (w : World) (hm : b.size ≤ maxLen) :
    Calls Try.prog 79 #[.string b] w fun e w' => e = .returned (.tuple #[.string (nxt b).1, .int .i64 (nxt b).2]) ∧ Below w.heap.size w w' := by
  by_cases h : b.size < 8
  · have e : nxt b = (⟨#[]⟩, 70) := by unfold nxt; rw [if_pos h]
    rw [e]
    exact (next_short b w (by omega)).mono fun e w' ⟨he, hw⟩ => ⟨he, hw ▸ Below.refl _ _⟩
  · have h' : ¬ (b.size : Int) < 8 := by omega
    by_cases hb : sumB (b.extract 0 4) = num (b.extract 4 8)
    · by_cases hl : 4194304 < num (b.extract 0 4)
      · have e : nxt b = (⟨#[]⟩, 71) := by unfold nxt; rw [if_neg h, if_pos (.inr hl)]
        rw [e]; exact next_bad2 b w hm h' hb hl
      · have hn : ¬ (sumB (b.extract 0 4) ≠ num (b.extract 4 8) ∨ 4194304 < num (b.extract 0 4)) := fun h1 => h1.elim (fun h2 => h2 hb) hl
        by_cases ht : b.size < 12 + num (b.extract 0 4)
        · have e : nxt b = (⟨#[]⟩, 70) := by unfold nxt; rw [if_neg h, if_neg hn, if_pos ht]
          rw [e]; exact next_torn b w hm h' hb hl ht
        · by_cases hc : sumB (b.extract 12 (12 + num (b.extract 0 4))) = num (b.extract 8 12)
          · have e : nxt b = (b.extract 12 (12 + num (b.extract 0 4)), 0) := by unfold nxt; rw [if_neg h, if_neg hn, if_neg ht, if_neg (fun h1 => h1 hc)]
            rw [e]; exact next_ok b w hm h' hb hl ht hc
          · have e : nxt b = (⟨#[]⟩, 71) := by unfold nxt; rw [if_neg h, if_neg hn, if_neg ht, if_pos hc]
            rw [e]; exact next_bad3 b w hm h' hb hl ht hc
    · have e : nxt b = (⟨#[]⟩, 71) := by unfold nxt; rw [if_neg h, if_pos (.inl hb)]
      rw [e]; exact next_bad1 b w hm h' hb

end Go.Proofs.Ytafialodjnjihaa
