/- The makers of values: null, truth, number, float, bytes, text. No condition. -/
import Derived.Test.YtafialodjnjihaaDoorValid
namespace Go.Proofs.YtafialodjnjihaaDoor
open Go Go.RowKit
set_option maxRecDepth 100000
set_option linter.unusedVariables false

theorem bits64 (x : Nat) (w : World) : (callFunc 24 #[.float .f64 x]).run Tryd.prog w = .ok (.value (.int .u64 x)) w := by
  rw [run_callFunc_extern (e := Extern.MathFloatBits.float64bits) Tryd.func24 (by kernel_rfl) (by kernel_rfl) (by kernel_rfl) (by kernel_rfl)]
  rfl

theorem null_any (w : World) : Calls Tryd.prog 19 #[] w fun e w' => e = .returned (.agg #[.int .u8 0, .int .i64 0, .int .u64 0, .string ⟨#[]⟩]) ∧ Below w.heap.size w w' := by
  go_enter Tryd.func19, Tryd.ntmps19
  go_wp2
  exact bodyPost_ret (v := .agg #[.int .u8 0, .int .i64 0, .int .u64 0, .string ⟨#[]⟩]) (by simp [results, Tryd.results19, go_sem]) rfl ⟨rfl, (Below.refl _ _).alloc (Nat.le_refl _) _⟩
theorem bool_any (b : Bool) (w : World) : Calls Tryd.prog 20 #[.bool b] w fun e w' => e = .returned (.agg #[.int .u8 1, .int .i64 (if b then 1 else 0), .int .u64 0, .string ⟨#[]⟩]) ∧ Below w.heap.size w w' := by
  cases b
  · go_enter Tryd.func20, Tryd.ntmps20
    go_wp2
    exact bodyPost_ret (v := .agg #[.int .u8 1, .int .i64 0, .int .u64 0, .string ⟨#[]⟩]) (by simp [results, Tryd.results20, go_sem]) rfl ⟨rfl, below2 w _ _⟩
  · go_enter Tryd.func20, Tryd.ntmps20
    go_wp2
    exact bodyPost_ret (v := .agg #[.int .u8 1, .int .i64 1, .int .u64 0, .string ⟨#[]⟩]) (by simp [results, Tryd.results20, go_sem]) rfl ⟨rfl, below2 w _ _⟩
theorem int_any (n : Int) (w : World) : Calls Tryd.prog 21 #[.int .i64 n] w fun e w' => e = .returned (.agg #[.int .u8 2, .int .i64 n, .int .u64 0, .string ⟨#[]⟩]) ∧ Below w.heap.size w w' := by
  go_enter Tryd.func21, Tryd.ntmps21
  go_wp2
  exact bodyPost_ret (v := .agg #[.int .u8 2, .int .i64 n, .int .u64 0, .string ⟨#[]⟩]) (by simp [results, Tryd.results21, go_sem]) rfl ⟨rfl, (Below.refl _ _).alloc (Nat.le_refl _) _⟩
theorem real_any (x : Nat) (w : World) : Calls Tryd.prog 22 #[.float .f64 x] w fun e w' => e = .returned (.agg #[.int .u8 3, .int .i64 0, .int .u64 (Rl.canon x), .string ⟨#[]⟩]) ∧ Below w.heap.size w w' := by
  have fb := fun w => bits64 x w
  have C := box (fun W => canon_any x W)
  go_enter Tryd.func22, Tryd.ntmps22
  go_wp2_with fail
  refine (C.out _).mono ?_
  rintro e w1 ⟨rfl, rfl⟩
  go_wp2_with fail
  exact bodyPost_ret (v := .agg #[.int .u8 3, .int .i64 0, .int .u64 (Rl.canon x), .string ⟨#[]⟩]) (by simp [results, Tryd.results22, go_sem]) rfl ⟨rfl, (Below.refl _ _).alloc (Nat.le_refl _) _⟩
theorem bytes_long (s : ByteArray) (w : World) (h : (100 : Int) < (s.size : Int)) : Calls Tryd.prog 25 #[.string s] w fun e w' => e = .returned (.tuple #[.agg #[.int .u8 0, .int .i64 0, .int .u64 0, .string ⟨#[]⟩], .int .i64 5]) ∧ Below w.heap.size w w' := by
  go_enter Tryd.func25, Tryd.ntmps25
  go_wp2
  exact bodyPost_ret (v := .tuple #[.agg #[.int .u8 0, .int .i64 0, .int .u64 0, .string ⟨#[]⟩], .int .i64 5]) (by simp [results, Tryd.results25, go_sem]) rfl ⟨rfl, (Below.refl _ _).alloc (Nat.le_refl _) _⟩
theorem bytes_ok (s : ByteArray) (w : World) (h : ¬ (100 : Int) < (s.size : Int)) : Calls Tryd.prog 25 #[.string s] w fun e w' => e = .returned (.tuple #[.agg #[.int .u8 4, .int .i64 0, .int .u64 0, .string s], .int .i64 0]) ∧ Below w.heap.size w w' := by
  go_enter Tryd.func25, Tryd.ntmps25
  go_wp2
  exact bodyPost_ret (v := .tuple #[.agg #[.int .u8 4, .int .i64 0, .int .u64 0, .string s], .int .i64 0]) (by simp [results, Tryd.results25, go_sem]) rfl ⟨rfl, (Below.refl _ _).alloc (Nat.le_refl _) _⟩
theorem string_long (s : ByteArray) (w : World) (h : (100 : Int) < (s.size : Int)) : Calls Tryd.prog 26 #[.string s] w fun e w' => e = .returned (.tuple #[.agg #[.int .u8 0, .int .i64 0, .int .u64 0, .string ⟨#[]⟩], .int .i64 5]) ∧ Below w.heap.size w w' := by
  go_enter Tryd.func26, Tryd.ntmps26
  go_wp2
  exact bodyPost_ret (v := .tuple #[.agg #[.int .u8 0, .int .i64 0, .int .u64 0, .string ⟨#[]⟩], .int .i64 5]) (by simp [results, Tryd.results26, go_sem]) rfl ⟨rfl, (Below.refl _ _).alloc (Nat.le_refl _) _⟩
theorem string_form (s : ByteArray) (w : World) (hT : Tabs w) (h : ¬ (100 : Int) < (s.size : Int)) (hv : valid s = false) : Calls Tryd.prog 26 #[.string s] w fun e w' => e = .returned (.tuple #[.agg #[.int .u8 0, .int .i64 0, .int .u64 0, .string ⟨#[]⟩], .int .i64 7]) ∧ Below w.heap.size w w' := by
  have C := box (validHas s (w.alloc (.cells #[.int .u8 0, .int .i64 0, .int .u64 0, .string ⟨#[]⟩] 24)) (by omega) (hT.below ((Below.refl _ _).alloc (Nat.le_refl _) _)))
  have e5 : Lib.validD s.data.toList = false := hv
  rw [e5] at C
  clear e5 hv hT
  go_enter Tryd.func26, Tryd.ntmps26
  go_wp2_with fail
  refine C.out.mono ?_
  rintro e w1 ⟨rfl, hb⟩
  have HB := box (((Below.refl w.heap.size w).alloc (Nat.le_refl _) _).trans (hb.mono (by simp)))
  have hz : w.heap.size < w1.heap.size := by have := hb.size; simp at this; omega
  have W1 := (Whole1.made w 24 #[.int .u8 0, .int .i64 0, .int .u64 0, .string ⟨#[]⟩]).below hb (show w.heap.size < _ by simp)
  have c0 : w1.cell? ⟨w.heap.size, 0, none⟩ = some (.int .u8 0) := W1.cell 0
  have c1 : w1.cell? ⟨w.heap.size, 1, none⟩ = some (.int .i64 0) := W1.cell 1
  have c2 : w1.cell? ⟨w.heap.size, 2, none⟩ = some (.int .u64 0) := W1.cell 2
  have c3 : w1.cell? ⟨w.heap.size, 3, none⟩ = some (.string ⟨#[]⟩) := W1.cell 3
  have f0 : w1.frozen? ⟨w.heap.size, 0, none⟩ = false := W1.frozen 0
  have f1 : w1.frozen? ⟨w.heap.size, 1, none⟩ = false := W1.frozen 1
  have f2 : w1.frozen? ⟨w.heap.size, 2, none⟩ = false := W1.frozen 2
  have f3 : w1.frozen? ⟨w.heap.size, 3, none⟩ = false := W1.frozen 3
  clear hb W1
  go_wp2_with fail
  refine bodyPost_ret (v := .tuple #[.agg #[.int .u8 0, .int .i64 0, .int .u64 0, .string ⟨#[]⟩], .int .i64 7]) ?_ rfl ⟨rfl, ?_⟩
  · simp [results, Tryd.results26, go_sem, c0, c1, c2, c3]
  · exact (((HB.out.setCell (p := ⟨w.heap.size, 0, none⟩) (Nat.le_refl _) _).setCell (p := ⟨w.heap.size, 1, none⟩) (Nat.le_refl _) _).setCell (p := ⟨w.heap.size, 2, none⟩) (Nat.le_refl _) _).setCell (p := ⟨w.heap.size, 3, none⟩) (Nat.le_refl _) _
theorem string_ok (s : ByteArray) (w : World) (hT : Tabs w) (h : ¬ (100 : Int) < (s.size : Int)) (hv : valid s = true) : Calls Tryd.prog 26 #[.string s] w fun e w' => e = .returned (.tuple #[.agg #[.int .u8 5, .int .i64 0, .int .u64 0, .string s], .int .i64 0]) ∧ Below w.heap.size w w' := by
  have C := box (validHas s (w.alloc (.cells #[.int .u8 0, .int .i64 0, .int .u64 0, .string ⟨#[]⟩] 24)) (by omega) (hT.below ((Below.refl _ _).alloc (Nat.le_refl _) _)))
  have e5 : Lib.validD s.data.toList = true := hv
  rw [e5] at C
  clear e5 hv hT
  go_enter Tryd.func26, Tryd.ntmps26
  go_wp2_with fail
  refine C.out.mono ?_
  rintro e w1 ⟨rfl, hb⟩
  have HB := box (((Below.refl w.heap.size w).alloc (Nat.le_refl _) _).trans (hb.mono (by simp)))
  have hz : w.heap.size < w1.heap.size := by have := hb.size; simp at this; omega
  have W1 := (Whole1.made w 24 #[.int .u8 0, .int .i64 0, .int .u64 0, .string ⟨#[]⟩]).below hb (show w.heap.size < _ by simp)
  have c0 : w1.cell? ⟨w.heap.size, 0, none⟩ = some (.int .u8 0) := W1.cell 0
  have c1 : w1.cell? ⟨w.heap.size, 1, none⟩ = some (.int .i64 0) := W1.cell 1
  have c2 : w1.cell? ⟨w.heap.size, 2, none⟩ = some (.int .u64 0) := W1.cell 2
  have c3 : w1.cell? ⟨w.heap.size, 3, none⟩ = some (.string ⟨#[]⟩) := W1.cell 3
  have f0 : w1.frozen? ⟨w.heap.size, 0, none⟩ = false := W1.frozen 0
  have f1 : w1.frozen? ⟨w.heap.size, 1, none⟩ = false := W1.frozen 1
  have f2 : w1.frozen? ⟨w.heap.size, 2, none⟩ = false := W1.frozen 2
  have f3 : w1.frozen? ⟨w.heap.size, 3, none⟩ = false := W1.frozen 3
  clear hb W1
  go_wp2_with fail
  refine bodyPost_ret (v := .tuple #[.agg #[.int .u8 5, .int .i64 0, .int .u64 0, .string s], .int .i64 0]) ?_ rfl ⟨rfl, ?_⟩
  · simp [results, Tryd.results26, go_sem, c0, c1, c2, c3]
  · exact (((HB.out.setCell (p := ⟨w.heap.size, 0, none⟩) (Nat.le_refl _) _).setCell (p := ⟨w.heap.size, 1, none⟩) (Nat.le_refl _) _).setCell (p := ⟨w.heap.size, 2, none⟩) (Nat.le_refl _) _).setCell (p := ⟨w.heap.size, 3, none⟩) (Nat.le_refl _) _
end Go.Proofs.YtafialodjnjihaaDoor
