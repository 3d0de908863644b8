/- The table of half bytes: the closure's step and the function that fills the table. No condition. -/
import Derived.Test.YtafialodjnjihaaKit
import Derived.Test.YtafialodjnjihaaBits
import Derived.Test.YtafialodjnjihaaCrc
import Derived.Test.YtafialodjnjihaaProg
import Derived.Lib.SmallJoins
namespace Go.Proofs.Ytafialodjnjihaa
open Go Go.RowKit Go.Joins
set_option maxRecDepth 100000
set_option linter.unusedVariables false

theorem half_step (d : Nat) (h : d < 4294967296) :
    bits BinOp.xor IntKind.u32 (↑d / 2) (bits BinOp.and IntKind.u32 3988292384 (-bits BinOp.and IntKind.u32 (↑d) 1 % 4294967296)) = ((Crc.bit d : Nat) : Int) := by
  have e1 : bits BinOp.and IntKind.u32 (d : Int) 1 = ((d % 2 : Nat) : Int) := by
    rw [← Nat.and_one_is_mod]; exact and_u32 d 1 h (by decide)
  rw [e1]
  have e2 : ((d : Int) / 2) = ((d / 2 : Nat) : Int) := by omega
  rw [e2]
  unfold Crc.bit Crc.poly
  by_cases ho : d % 2 = 1
  · rw [ho, if_pos rfl]
    have e3 : bits BinOp.and IntKind.u32 3988292384 (-((1 : Nat) : Int) % 4294967296) = ((3988292384 : Nat) : Int) := by decide
    rw [e3]
    exact xor_u32 _ _ (by omega) (by decide)
  · have h0 : d % 2 = 0 := by omega
    rw [h0, if_neg (by decide)]
    have e3 : bits BinOp.and IntKind.u32 3988292384 (-((0 : Nat) : Int) % 4294967296) = ((0 : Nat) : Int) := by decide
    rw [e3]
    exact xor_u32 _ _ (by omega) (by decide)

set_option maxHeartbeats 1000000 in
theorem half1_any (c : Nat) (w : World) (hc : c < 4294967296) :
    Calls Try.prog 76 #[.int .u32 c] w fun e w' => e = .returned (.int .u32 (Crc.steps 4 c)) ∧ w = w' := by
  have HC := Lib.hid hc
  clear hc
  go_enter Try.func76, Try.ntmps76
  go_wp2_with fail
  go_loop [0, 3] (fun v i => ∃ k d : Nat, k ≤ 4 ∧ i = .int .i64 k ∧ v = .int .u32 d ∧ d < 4294967296 ∧ Crc.steps (4 - k) d = Crc.steps 4 c) (fun _ i => 4 - (intOf i).toNat)
  case atStart => exact ⟨0, c, by omega, rfl, rfl, HC.out, rfl⟩
  case round =>
    obtain ⟨k, d, hk, rfl, rfl, hd, hs⟩ := hrel
    have HS := Lib.hid hs
    have HD := Lib.hid hd
    clear hs hd
    by_cases hlt : k < 4
    · go_wp2_with fail
      go_round
      case rel =>
        refine ⟨k + 1, Crc.bit d, by omega, by go_num, ?_, Crc.bit_lt HD.out, ?_⟩
        · rw [← half_step d HD.out]
        · have := HS.out
          rw [show 4 - k = (4 - (k + 1)) + 1 by omega] at this
          exact this
      case measure => simp [intOf]; omega
    · obtain rfl : k = 4 := by omega
      go_wp2_with fail
      go_ret
      exact ⟨by rw [← HS.out]; rfl, rfl⟩

def nib : Array Value := #[.int .u32 0, .int .u32 498536548, .int .u32 997073096, .int .u32 651767980, .int .u32 1994146192, .int .u32 1802195444, .int .u32 1303535960, .int .u32 1342533948, .int .u32 3988292384, .int .u32 4027552580, .int .u32 3604390888, .int .u32 3412177804, .int .u32 2607071920, .int .u32 2262029012, .int .u32 2685067896, .int .u32 3183342108]

def idx : Array Value := #[.int .u32 0, .int .u32 1, .int .u32 2, .int .u32 3, .int .u32 4, .int .u32 5, .int .u32 6, .int .u32 7, .int .u32 8, .int .u32 9, .int .u32 10, .int .u32 11, .int .u32 12, .int .u32 13, .int .u32 14, .int .u32 15]
def zer : Array Value := #[.int .u32 0, .int .u32 0, .int .u32 0, .int .u32 0, .int .u32 0, .int .u32 0, .int .u32 0, .int .u32 0, .int .u32 0, .int .u32 0, .int .u32 0, .int .u32 0, .int .u32 0, .int .u32 0, .int .u32 0, .int .u32 0]
/-- the table when k of its numbers are made -/
def part (k : Nat) : Array Value := ((List.range 16).map fun j => if j < k then Value.int .u32 (Crc.steps 4 j : Nat) else .int .u32 (j : Nat)).toArray

theorem part_zero : part 0 = idx := by kernel_rfl
theorem part_full : part 16 = nib := by kernel_rfl
theorem part_size (k : Nat) : (part k).size = 16 := by simp [part]
theorem part_at (k : Nat) (h : k < 16) : (part k)[k]? = some (.int .u32 k) := by
  simp [part, h]
theorem part_set (k : Nat) (h : k < 16) : (part k).setIfInBounds k (.int .u32 (Crc.steps 4 k : Nat)) = part (k + 1) := by
  apply Array.ext'
  simp only [part, Array.toList_setIfInBounds]
  apply List.ext_getElem?
  intro i
  by_cases hi : i < 16
  · by_cases e : k = i
    · subst e
      rw [List.getElem?_set_self (by simp; omega)]
      simp [hi]
    · rw [List.getElem?_set_ne e]
      simp only [List.getElem?_map, List.getElem?_range hi, Option.map_some]
      congr 1
      by_cases h1 : i < k
      · rw [if_pos h1, if_pos (by omega)]
      · rw [if_neg h1, if_neg (by omega)]
  · rw [List.getElem?_eq_none (by simp; omega), List.getElem?_eq_none (by simp; omega)]
theorem idx_0 (w : World) : (Instr.index 94 (.agg idx) (.int .i64 0)).run Try.prog w = .ok (.int .u32 0) w := by kernel_rfl
theorem idx_1 (w : World) : (Instr.index 94 (.agg idx) (.int .i64 1)).run Try.prog w = .ok (.int .u32 1) w := by kernel_rfl
theorem idx_2 (w : World) : (Instr.index 94 (.agg idx) (.int .i64 2)).run Try.prog w = .ok (.int .u32 2) w := by kernel_rfl
theorem idx_3 (w : World) : (Instr.index 94 (.agg idx) (.int .i64 3)).run Try.prog w = .ok (.int .u32 3) w := by kernel_rfl
theorem idx_4 (w : World) : (Instr.index 94 (.agg idx) (.int .i64 4)).run Try.prog w = .ok (.int .u32 4) w := by kernel_rfl
theorem idx_5 (w : World) : (Instr.index 94 (.agg idx) (.int .i64 5)).run Try.prog w = .ok (.int .u32 5) w := by kernel_rfl
theorem idx_6 (w : World) : (Instr.index 94 (.agg idx) (.int .i64 6)).run Try.prog w = .ok (.int .u32 6) w := by kernel_rfl
theorem idx_7 (w : World) : (Instr.index 94 (.agg idx) (.int .i64 7)).run Try.prog w = .ok (.int .u32 7) w := by kernel_rfl
theorem idx_8 (w : World) : (Instr.index 94 (.agg idx) (.int .i64 8)).run Try.prog w = .ok (.int .u32 8) w := by kernel_rfl
theorem idx_9 (w : World) : (Instr.index 94 (.agg idx) (.int .i64 9)).run Try.prog w = .ok (.int .u32 9) w := by kernel_rfl
theorem idx_10 (w : World) : (Instr.index 94 (.agg idx) (.int .i64 10)).run Try.prog w = .ok (.int .u32 10) w := by kernel_rfl
theorem idx_11 (w : World) : (Instr.index 94 (.agg idx) (.int .i64 11)).run Try.prog w = .ok (.int .u32 11) w := by kernel_rfl
theorem idx_12 (w : World) : (Instr.index 94 (.agg idx) (.int .i64 12)).run Try.prog w = .ok (.int .u32 12) w := by kernel_rfl
theorem idx_13 (w : World) : (Instr.index 94 (.agg idx) (.int .i64 13)).run Try.prog w = .ok (.int .u32 13) w := by kernel_rfl
theorem idx_14 (w : World) : (Instr.index 94 (.agg idx) (.int .i64 14)).run Try.prog w = .ok (.int .u32 14) w := by kernel_rfl
theorem idx_15 (w : World) : (Instr.index 94 (.agg idx) (.int .i64 15)).run Try.prog w = .ok (.int .u32 15) w := by kernel_rfl
theorem idx_at (k : Nat) (h : k < 16) (w : World) : (Instr.index 94 (.agg idx) (.int .i64 k)).run Try.prog w = .ok (.int .u32 k) w := by
  match k, h with
  | 0, _ => exact idx_0 w
  | 1, _ => exact idx_1 w
  | 2, _ => exact idx_2 w
  | 3, _ => exact idx_3 w
  | 4, _ => exact idx_4 w
  | 5, _ => exact idx_5 w
  | 6, _ => exact idx_6 w
  | 7, _ => exact idx_7 w
  | 8, _ => exact idx_8 w
  | 9, _ => exact idx_9 w
  | 10, _ => exact idx_10 w
  | 11, _ => exact idx_11 w
  | 12, _ => exact idx_12 w
  | 13, _ => exact idx_13 w
  | 14, _ => exact idx_14 w
  | 15, _ => exact idx_15 w
  | n + 16, h => omega

set_option maxHeartbeats 2000000 in
theorem half_any (w : World) : Calls Try.prog 70 #[] w fun e w' => e = .returned (.agg nib) ∧ Below w.heap.size w w' := by
  go_enter Try.func70, Try.ntmps70
  go_wp2_with fail
  go_loopw [7] (fun i wr => ∃ k : Nat, k ≤ 16 ∧ i = .int .i64 k ∧ wr = (w.alloc (.cells zer 94)).alloc (.cells (part k) 94)) (fun i _ => 16 - (intOf i).toNat)
  case atStart => exact ⟨0, by omega, rfl, by rw [part_zero]; rfl⟩
  case round =>
    obtain ⟨k, hk, rfl, rfl⟩ := hrel
    by_cases hlt : k < 16
    · have hix := idx_at k hlt
      unfold idx at hix
      go_wp2_with fail
      refine (half1_any k _ (by omega)).mono ?_
      rintro e w2 ⟨rfl, rfl⟩
      have hc : ((w.alloc (.cells zer 94)).alloc (.cells (part k) 94)).cell? ⟨w.heap.size + 1, k, none⟩ = some (.int .u32 k) := by
        rw [← part_at k hlt]
        exact cell_alloc_mark_at (w.alloc (.cells zer 94)) (part k) 94 (0, 0) (w.heap.size + 1) k (by simp)
      clear hix
      go_wp2_with fail
      go_roundw
      case rel =>
        refine ⟨k + 1, hlt, by go_num, ?_⟩
        rw [← part_set k hlt]
      case measure => simp [intOf]; omega
    · obtain rfl : k = 16 := by omega
      rw [part_full]
      unfold nib zer
      go_wp2_with fail
      exact bodyPost_ret (v := .agg nib) (by unfold nib; simp [results, Try.results70, go_sem]) rfl ⟨rfl, Below.alloc (Below.alloc (Below.refl _ _) (Nat.le_refl _) _) (by simp) _⟩
end Go.Proofs.Ytafialodjnjihaa
