/- InletNil: what no inlet answers. The walk of the law and the given statement. No condition. -/
import Derived.Test.YtafialodjnjihaaAlive22
namespace Go.Proofs.Ytafialodjnjihaa
open Go Go.RowKit
set_option maxRecDepth 100000

theorem some_nil (a : Option Addr) (n c : Nat) (w : World) : Calls Try.prog 23 #[.pointer none, .slice a n c] w fun e w' => e = .returned (.tuple #[.slice none 0 0, .int .i64 1]) ∧ w' = w := by
  go_enter Try.func23, Try.ntmps23
  go_wp2
  go_ret2
  exact ⟨rfl, rfl⟩

set_option maxHeartbeats 1000000 in
theorem inletNil_long (off seq : Int) (t : ByteArray) (w : World) (h : (4096 : Int) < (t.size : Int)) :
    Calls Try.prog 5 #[.agg #[.int .u64 off, .int .u64 seq, .string t]] w fun e w' => e = .returned (.bool true) ∧ Below w.heap.size w w' := by
  go_enter Try.func5, Try.ntmps5
  go_wp2_with fail
  refine (alive22 _).mono ?_
  rintro e w1 ⟨rfl, hb⟩
  go_wp2_with fail
  go_ret
  exact ⟨rfl, (Below.alloc (Below.refl _ _) (Nat.le_refl _) _).trans (hb.mono (by simp))⟩

set_option maxHeartbeats 1000000 in
theorem inletNil_short (off seq : Int) (t : ByteArray) (w : World) (h : ¬ (4096 : Int) < (t.size : Int)) :
    Calls Try.prog 5 #[.agg #[.int .u64 off, .int .u64 seq, .string t]] w fun e w' => e = .returned (.bool true) ∧ Below w.heap.size w w' := by
  go_enter Try.func5, Try.ntmps5
  go_wp2_with fail
  refine (take_nil off seq t _).mono ?_
  rintro e w1 ⟨rfl, hw⟩
  have B1 := Lib.hid (show Below w.heap.size w w1 from hw ▸ Below.alloc (Below.alloc (Below.refl _ _) (Nat.le_refl _) _) (by simp) _)
  have c0 : w1.cell? ⟨w.heap.size, 0, none⟩ = some (.int .u64 off) := by subst hw; go_simp
  have c1 : w1.cell? ⟨w.heap.size, 1, none⟩ = some (.int .u64 seq) := by subst hw; go_simp
  have c2 : w1.cell? ⟨w.heap.size, 2, none⟩ = some (.string t) := by subst hw; go_simp
  clear hw
  go_wp2_with fail
  refine (some_nil _ _ _ _).mono ?_
  rintro e w2 ⟨rfl, hw⟩
  have B2 := Lib.hid (show Below w.heap.size w w2 from hw ▸ Below.alloc B1.out B1.out.size _)
  clear hw c0 c1 c2
  go_wp2_with fail
  refine (counts_nil _).mono ?_
  rintro e w3 ⟨rfl, rfl⟩
  go_wp2_with fail
  refine (next_nil _).mono ?_
  rintro e w4 ⟨rfl, rfl⟩
  go_wp2_with fail
  refine (alive22 _).mono ?_
  rintro e w5 ⟨rfl, hb⟩
  have B3 := Lib.hid (B2.out.trans (hb.mono B2.out.size))
  clear hb
  go_wp2_with fail
  go_ret
  exact ⟨rfl, B3.out⟩

theorem inletNil_walk (off seq : Int) (t : ByteArray) (w : World) :
    Calls Try.prog 5 #[.agg #[.int .u64 off, .int .u64 seq, .string t]] w fun e w' => e = .returned (.bool true) ∧ Below w.heap.size w w' := by
  by_cases h : (4096 : Int) < (t.size : Int)
  · exact inletNil_long off seq t w h
  · exact inletNil_short off seq t w h

end Go.Proofs.Ytafialodjnjihaa
