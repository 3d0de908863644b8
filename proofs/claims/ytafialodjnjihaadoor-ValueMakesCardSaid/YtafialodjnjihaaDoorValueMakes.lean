/- ValueMakes, the walk: which values are made of numbers, floats and texts, or that none is. Condition: utf8's two tables read as the program lays them. -/
import Derived.Test.YtafialodjnjihaaDoorAlive04

namespace Go.Proofs.YtafialodjnjihaaDoor
open Go Go.RowKit
set_option maxRecDepth 100000
set_option linter.unusedVariables false

theorem check_four (s : ByteArray) (w : World) (h : s.size ≤ 100) : Calls Tryd.prog 14 #[.agg #[.int .u8 4, .int .i64 0, .int .u64 0, .string s]] w fun e w' => e = .returned (.int .i64 0) ∧ Below w.heap.size w w' :=
  check4 0 0 0 s w (by decide) (by decide) (by unfold maxLen; omega) (box (by rw [if_pos ⟨rfl, rfl, h⟩]))
theorem check_five (s : ByteArray) (w : World) (h : s.size ≤ 100) (hv : valid s = true) (hT : Tabs w) : Calls Tryd.prog 14 #[.agg #[.int .u8 5, .int .i64 0, .int .u64 0, .string s]] w fun e w' => e = .returned (.int .i64 0) ∧ Below w.heap.size w w' :=
  check5 0 0 0 s w (by decide) (by decide) (by unfold maxLen; omega) validHas hT (box (by rw [if_pos ⟨rfl, rfl, hv, h⟩]))
theorem check_three (c : Nat) (w : World) (h : Rl.canon c = c) (hc : c < 18446744073709551616) : Calls Tryd.prog 14 #[.agg #[.int .u8 3, .int .i64 0, .int .u64 c, .string ⟨#[]⟩]] w fun e w' => e = .returned (.int .i64 0) ∧ Below w.heap.size w w' :=
  check3 0 0 c ⟨#[]⟩ w (by decide) hc (by decide) (box (by rw [if_pos ⟨rfl, h, rfl⟩]))

set_option maxHeartbeats 8000000 in
theorem valueMakes_walk (is : Bool) (n : Int) (x : Nat) (hx : x < 18446744073709551616) (s : ByteArray) (w : World) (hT : Tabs w) :
    Calls Tryd.prog 4 #[.bool is, .int .i64 n, .float .f64 x, .string s] w fun e w' => e = .returned (.bool true) ∧ Below w.heap.size w w' := by
  have HT := box hT
  clear hT
  by_cases h16 : (16384 : Int) < (s.size : Int)
  · go_enter Tryd.func4, Tryd.ntmps4
    go_wp2_with fail
    refine (alive04 _ HT.out).mono ?_
    rintro e w1 ⟨rfl, hb⟩
    have HB := box hb
    clear hb
    go_wp2_with fail
    go_ret
    exact ⟨rfl, HB.out⟩
  · have fb := fun w => bits64 x w
    have RL := box (fun W => real_any x W)
    have RC := box (fun W => refcanon_any x W hx)
    have KC := box (And.intro (Rl.canon_canon x) (Rl.canon_lt hx))
    obtain ⟨c, hc⟩ : ∃ c, Rl.canon x = c := ⟨_, rfl⟩
    rw [hc] at RL RC KC
    have K3 := box (fun W => check_three c W (by have := KC.out.1; exact this) KC.out.2)
    clear hc KC hx
    by_cases h100 : (100 : Int) < (s.size : Int)
    · have BY := box (fun W => bytes_long s W h100)
      have ST := box (fun W => string_long s W h100)
      cases is
      · go_enter Tryd.func4, Tryd.ntmps4
        go_wp2_with fail
        refine (null_any _).mono ?_
        rintro e w1 ⟨rfl, hb⟩
        have B1 := box hb
        clear hb
        go_wp2_with fail
        refine (bool_any _ _).mono ?_
        rintro e w2 ⟨rfl, hb⟩
        have B2 := box (Below.grown B1.out (Only.below hb none) B1.out.size (by simp))
        clear hb
        go_wp2_with fail
        refine (int_any _ _).mono ?_
        rintro e w3 ⟨rfl, hb⟩
        have B3 := box (Below.grown B2.out (Only.below hb none) B2.out.size (by simp))
        clear hb
        go_wp2_with fail
        refine (RL.out _).mono ?_
        rintro e w4 ⟨rfl, hb⟩
        have B4 := box (Below.grown B3.out (Only.below hb none) B3.out.size (by simp))
        clear hb
        go_wp2_with fail
        refine (RC.out _).mono ?_
        rintro e wq ⟨rfl, rfl⟩
        go_wp2_with fail
        refine (BY.out _).mono ?_
        rintro e w5 ⟨rfl, hb⟩
        have B5 := box (Below.grown B4.out (Only.below hb none) B4.out.size (by simp))
        clear hb
        have B5a := box (Below.alloc B5.out B5.out.size (.cells #[.int .u8 0, .int .i64 0, .int .u64 0, .string ⟨#[]⟩] 24))
        have P0_5a := box (Whole1.made w5 24 #[.int .u8 0, .int .i64 0, .int .u64 0, .string ⟨#[]⟩])
        have HT2 := box (HT.out.below B5a.out)
        go_wp2_with fail
        refine (ST.out _).mono ?_
        rintro e w6 ⟨rfl, hb⟩
        have B6 := box (Below.grown B5a.out (Only.below hb none) B5a.out.size (by simp))
        have P0_6 := box (P0_5a.out.below hb P0_5a.out.lt)
        clear hb
        have B6a := box (Below.alloc B6.out B6.out.size (.cells #[.int .u8 0, .int .i64 0, .int .u64 0, .string ⟨#[]⟩] 24))
        have P0_6a := box (P0_6.out.alloc (.cells #[.int .u8 0, .int .i64 0, .int .u64 0, .string ⟨#[]⟩] 24))
        have P1_6a := box (Whole1.made w6 24 #[.int .u8 0, .int .i64 0, .int .u64 0, .string ⟨#[]⟩])
        have c00 : (w6.alloc (.cells #[.int .u8 0, .int .i64 0, .int .u64 0, .string ⟨#[]⟩] 24)).cell? ⟨w5.heap.size, 0, none⟩ = some (.int .u8 0) := P0_6a.out.cell 0
        have c01 : (w6.alloc (.cells #[.int .u8 0, .int .i64 0, .int .u64 0, .string ⟨#[]⟩] 24)).cell? ⟨w5.heap.size, 1, none⟩ = some (.int .i64 0) := P0_6a.out.cell 1
        have c02 : (w6.alloc (.cells #[.int .u8 0, .int .i64 0, .int .u64 0, .string ⟨#[]⟩] 24)).cell? ⟨w5.heap.size, 2, none⟩ = some (.int .u64 0) := P0_6a.out.cell 2
        have c03 : (w6.alloc (.cells #[.int .u8 0, .int .i64 0, .int .u64 0, .string ⟨#[]⟩] 24)).cell? ⟨w5.heap.size, 3, none⟩ = some (.string ⟨#[]⟩) := P0_6a.out.cell 3
        have c10 : (w6.alloc (.cells #[.int .u8 0, .int .i64 0, .int .u64 0, .string ⟨#[]⟩] 24)).cell? ⟨w6.heap.size, 0, none⟩ = some (.int .u8 0) := P1_6a.out.cell 0
        have c11 : (w6.alloc (.cells #[.int .u8 0, .int .i64 0, .int .u64 0, .string ⟨#[]⟩] 24)).cell? ⟨w6.heap.size, 1, none⟩ = some (.int .i64 0) := P1_6a.out.cell 1
        have c12 : (w6.alloc (.cells #[.int .u8 0, .int .i64 0, .int .u64 0, .string ⟨#[]⟩] 24)).cell? ⟨w6.heap.size, 2, none⟩ = some (.int .u64 0) := P1_6a.out.cell 2
        have c13 : (w6.alloc (.cells #[.int .u8 0, .int .i64 0, .int .u64 0, .string ⟨#[]⟩] 24)).cell? ⟨w6.heap.size, 3, none⟩ = some (.string ⟨#[]⟩) := P1_6a.out.cell 3
        have HT3 := box (HT.out.below B6a.out)
        go_wp2_with fail
        refine (alive04 _ HT3.out).mono ?_
        rintro e w7 ⟨rfl, hb⟩
        have B7 := box (Below.grown B6a.out (Only.below hb none) B6a.out.size (by simp))
        have P0_7 := box (P0_6a.out.below hb P0_6a.out.lt)
        have P1_7 := box (P1_6a.out.below hb P1_6a.out.lt)
        clear hb
        go_wp2_with fail
        go_ret
        exact ⟨rfl, B7.out⟩
      · go_enter Tryd.func4, Tryd.ntmps4
        go_wp2_with fail
        refine (null_any _).mono ?_
        rintro e w1 ⟨rfl, hb⟩
        have B1 := box hb
        clear hb
        go_wp2_with fail
        refine (bool_any _ _).mono ?_
        rintro e w2 ⟨rfl, hb⟩
        have B2 := box (Below.grown B1.out (Only.below hb none) B1.out.size (by simp))
        clear hb
        go_wp2_with fail
        refine (int_any _ _).mono ?_
        rintro e w3 ⟨rfl, hb⟩
        have B3 := box (Below.grown B2.out (Only.below hb none) B2.out.size (by simp))
        clear hb
        go_wp2_with fail
        refine (RL.out _).mono ?_
        rintro e w4 ⟨rfl, hb⟩
        have B4 := box (Below.grown B3.out (Only.below hb none) B3.out.size (by simp))
        clear hb
        go_wp2_with fail
        refine (RC.out _).mono ?_
        rintro e wq ⟨rfl, rfl⟩
        go_wp2_with fail
        refine (BY.out _).mono ?_
        rintro e w5 ⟨rfl, hb⟩
        have B5 := box (Below.grown B4.out (Only.below hb none) B4.out.size (by simp))
        clear hb
        have B5a := box (Below.alloc B5.out B5.out.size (.cells #[.int .u8 0, .int .i64 0, .int .u64 0, .string ⟨#[]⟩] 24))
        have P0_5a := box (Whole1.made w5 24 #[.int .u8 0, .int .i64 0, .int .u64 0, .string ⟨#[]⟩])
        have HT2 := box (HT.out.below B5a.out)
        go_wp2_with fail
        refine (ST.out _).mono ?_
        rintro e w6 ⟨rfl, hb⟩
        have B6 := box (Below.grown B5a.out (Only.below hb none) B5a.out.size (by simp))
        have P0_6 := box (P0_5a.out.below hb P0_5a.out.lt)
        clear hb
        have B6a := box (Below.alloc B6.out B6.out.size (.cells #[.int .u8 0, .int .i64 0, .int .u64 0, .string ⟨#[]⟩] 24))
        have P0_6a := box (P0_6.out.alloc (.cells #[.int .u8 0, .int .i64 0, .int .u64 0, .string ⟨#[]⟩] 24))
        have P1_6a := box (Whole1.made w6 24 #[.int .u8 0, .int .i64 0, .int .u64 0, .string ⟨#[]⟩])
        have c00 : (w6.alloc (.cells #[.int .u8 0, .int .i64 0, .int .u64 0, .string ⟨#[]⟩] 24)).cell? ⟨w5.heap.size, 0, none⟩ = some (.int .u8 0) := P0_6a.out.cell 0
        have c01 : (w6.alloc (.cells #[.int .u8 0, .int .i64 0, .int .u64 0, .string ⟨#[]⟩] 24)).cell? ⟨w5.heap.size, 1, none⟩ = some (.int .i64 0) := P0_6a.out.cell 1
        have c02 : (w6.alloc (.cells #[.int .u8 0, .int .i64 0, .int .u64 0, .string ⟨#[]⟩] 24)).cell? ⟨w5.heap.size, 2, none⟩ = some (.int .u64 0) := P0_6a.out.cell 2
        have c03 : (w6.alloc (.cells #[.int .u8 0, .int .i64 0, .int .u64 0, .string ⟨#[]⟩] 24)).cell? ⟨w5.heap.size, 3, none⟩ = some (.string ⟨#[]⟩) := P0_6a.out.cell 3
        have c10 : (w6.alloc (.cells #[.int .u8 0, .int .i64 0, .int .u64 0, .string ⟨#[]⟩] 24)).cell? ⟨w6.heap.size, 0, none⟩ = some (.int .u8 0) := P1_6a.out.cell 0
        have c11 : (w6.alloc (.cells #[.int .u8 0, .int .i64 0, .int .u64 0, .string ⟨#[]⟩] 24)).cell? ⟨w6.heap.size, 1, none⟩ = some (.int .i64 0) := P1_6a.out.cell 1
        have c12 : (w6.alloc (.cells #[.int .u8 0, .int .i64 0, .int .u64 0, .string ⟨#[]⟩] 24)).cell? ⟨w6.heap.size, 2, none⟩ = some (.int .u64 0) := P1_6a.out.cell 2
        have c13 : (w6.alloc (.cells #[.int .u8 0, .int .i64 0, .int .u64 0, .string ⟨#[]⟩] 24)).cell? ⟨w6.heap.size, 3, none⟩ = some (.string ⟨#[]⟩) := P1_6a.out.cell 3
        have HT3 := box (HT.out.below B6a.out)
        go_wp2_with fail
        refine (alive04 _ HT3.out).mono ?_
        rintro e w7 ⟨rfl, hb⟩
        have B7 := box (Below.grown B6a.out (Only.below hb none) B6a.out.size (by simp))
        have P0_7 := box (P0_6a.out.below hb P0_6a.out.lt)
        have P1_7 := box (P1_6a.out.below hb P1_6a.out.lt)
        clear hb
        go_wp2_with fail
        go_ret
        exact ⟨rfl, B7.out⟩
    · have BY := box (fun W => bytes_ok s W h100)
      have K4 := box (fun W => check_four s W (by omega))
      have VV0 := box (fun W h => validHas s W (by omega) h)
      cases hv : valid s with
      | false =>
        have VV : Box (∀ W, Tabs W → Calls Tryd.prog 27 #[.string s] W fun e w' => e = .returned (.bool false) ∧ Below W.heap.size W w') := box (fun W h => by have := VV0.out W h; have e5 : Lib.validD s.data.toList = false := hv; rw [e5] at this; exact this)
        have ST := box (fun W h => string_form s W h h100 hv)
        clear hv VV0 K4
        cases is
        · go_enter Tryd.func4, Tryd.ntmps4
          go_wp2_with fail
          refine (null_any _).mono ?_
          rintro e w1 ⟨rfl, hb⟩
          have B1 := box hb
          clear hb
          go_wp2_with fail
          refine (bool_any _ _).mono ?_
          rintro e w2 ⟨rfl, hb⟩
          have B2 := box (Below.grown B1.out (Only.below hb none) B1.out.size (by simp))
          clear hb
          go_wp2_with fail
          refine (int_any _ _).mono ?_
          rintro e w3 ⟨rfl, hb⟩
          have B3 := box (Below.grown B2.out (Only.below hb none) B2.out.size (by simp))
          clear hb
          go_wp2_with fail
          refine (RL.out _).mono ?_
          rintro e w4 ⟨rfl, hb⟩
          have B4 := box (Below.grown B3.out (Only.below hb none) B3.out.size (by simp))
          clear hb
          go_wp2_with fail
          refine (RC.out _).mono ?_
          rintro e wq ⟨rfl, rfl⟩
          go_wp2_with fail
          refine (BY.out _).mono ?_
          rintro e w5 ⟨rfl, hb⟩
          have B5 := box (Below.grown B4.out (Only.below hb none) B4.out.size (by simp))
          clear hb
          have B5a := box (Below.alloc B5.out B5.out.size (.cells #[.int .u8 4, .int .i64 0, .int .u64 0, .string s] 24))
          have P0_5a := box (Whole1.made w5 24 #[.int .u8 4, .int .i64 0, .int .u64 0, .string s])
          have HT2 := box (HT.out.below B5a.out)
          go_wp2_with fail
          refine (ST.out _ HT2.out).mono ?_
          rintro e w6 ⟨rfl, hb⟩
          have B6 := box (Below.grown B5a.out (Only.below hb none) B5a.out.size (by simp))
          have P0_6 := box (P0_5a.out.below hb P0_5a.out.lt)
          clear hb
          have B6a := box (Below.alloc B6.out B6.out.size (.cells #[.int .u8 0, .int .i64 0, .int .u64 0, .string ⟨#[]⟩] 24))
          have P0_6a := box (P0_6.out.alloc (.cells #[.int .u8 0, .int .i64 0, .int .u64 0, .string ⟨#[]⟩] 24))
          have P1_6a := box (Whole1.made w6 24 #[.int .u8 0, .int .i64 0, .int .u64 0, .string ⟨#[]⟩])
          have c00 : (w6.alloc (.cells #[.int .u8 0, .int .i64 0, .int .u64 0, .string ⟨#[]⟩] 24)).cell? ⟨w5.heap.size, 0, none⟩ = some (.int .u8 4) := P0_6a.out.cell 0
          have c01 : (w6.alloc (.cells #[.int .u8 0, .int .i64 0, .int .u64 0, .string ⟨#[]⟩] 24)).cell? ⟨w5.heap.size, 1, none⟩ = some (.int .i64 0) := P0_6a.out.cell 1
          have c02 : (w6.alloc (.cells #[.int .u8 0, .int .i64 0, .int .u64 0, .string ⟨#[]⟩] 24)).cell? ⟨w5.heap.size, 2, none⟩ = some (.int .u64 0) := P0_6a.out.cell 2
          have c03 : (w6.alloc (.cells #[.int .u8 0, .int .i64 0, .int .u64 0, .string ⟨#[]⟩] 24)).cell? ⟨w5.heap.size, 3, none⟩ = some (.string s) := P0_6a.out.cell 3
          have c10 : (w6.alloc (.cells #[.int .u8 0, .int .i64 0, .int .u64 0, .string ⟨#[]⟩] 24)).cell? ⟨w6.heap.size, 0, none⟩ = some (.int .u8 0) := P1_6a.out.cell 0
          have c11 : (w6.alloc (.cells #[.int .u8 0, .int .i64 0, .int .u64 0, .string ⟨#[]⟩] 24)).cell? ⟨w6.heap.size, 1, none⟩ = some (.int .i64 0) := P1_6a.out.cell 1
          have c12 : (w6.alloc (.cells #[.int .u8 0, .int .i64 0, .int .u64 0, .string ⟨#[]⟩] 24)).cell? ⟨w6.heap.size, 2, none⟩ = some (.int .u64 0) := P1_6a.out.cell 2
          have c13 : (w6.alloc (.cells #[.int .u8 0, .int .i64 0, .int .u64 0, .string ⟨#[]⟩] 24)).cell? ⟨w6.heap.size, 3, none⟩ = some (.string ⟨#[]⟩) := P1_6a.out.cell 3
          have HT3 := box (HT.out.below B6a.out)
          go_wp2_with fail
          refine (VV.out _ HT3.out).mono ?_
          rintro e w7 ⟨rfl, hb⟩
          have B7 := box (Below.grown B6a.out (Only.below hb none) B6a.out.size (by simp))
          have P0_7 := box (P0_6a.out.below hb P0_6a.out.lt)
          have P1_7 := box (P1_6a.out.below hb P1_6a.out.lt)
          clear hb
          clear c00 c01 c02 c03
          clear c10 c11 c12 c13
          have c10 : w7.cell? ⟨w6.heap.size, 0, none⟩ = some (.int .u8 0) := P1_7.out.cell 0
          have c11 : w7.cell? ⟨w6.heap.size, 1, none⟩ = some (.int .i64 0) := P1_7.out.cell 1
          have c12 : w7.cell? ⟨w6.heap.size, 2, none⟩ = some (.int .u64 0) := P1_7.out.cell 2
          have c13 : w7.cell? ⟨w6.heap.size, 3, none⟩ = some (.string ⟨#[]⟩) := P1_7.out.cell 3
          have HT4 := box (HT.out.below B7.out)
          go_wp2_with fail
          refine (alive04 _ HT4.out).mono ?_
          rintro e w8 ⟨rfl, hb⟩
          have B8 := box (Below.grown B7.out (Only.below hb none) B7.out.size (by simp))
          have P0_8 := box (P0_7.out.below hb P0_7.out.lt)
          have P1_8 := box (P1_7.out.below hb P1_7.out.lt)
          clear hb
          go_wp2_with fail
          go_ret
          exact ⟨rfl, B8.out⟩
        · go_enter Tryd.func4, Tryd.ntmps4
          go_wp2_with fail
          refine (null_any _).mono ?_
          rintro e w1 ⟨rfl, hb⟩
          have B1 := box hb
          clear hb
          go_wp2_with fail
          refine (bool_any _ _).mono ?_
          rintro e w2 ⟨rfl, hb⟩
          have B2 := box (Below.grown B1.out (Only.below hb none) B1.out.size (by simp))
          clear hb
          go_wp2_with fail
          refine (int_any _ _).mono ?_
          rintro e w3 ⟨rfl, hb⟩
          have B3 := box (Below.grown B2.out (Only.below hb none) B2.out.size (by simp))
          clear hb
          go_wp2_with fail
          refine (RL.out _).mono ?_
          rintro e w4 ⟨rfl, hb⟩
          have B4 := box (Below.grown B3.out (Only.below hb none) B3.out.size (by simp))
          clear hb
          go_wp2_with fail
          refine (RC.out _).mono ?_
          rintro e wq ⟨rfl, rfl⟩
          go_wp2_with fail
          refine (BY.out _).mono ?_
          rintro e w5 ⟨rfl, hb⟩
          have B5 := box (Below.grown B4.out (Only.below hb none) B4.out.size (by simp))
          clear hb
          have B5a := box (Below.alloc B5.out B5.out.size (.cells #[.int .u8 4, .int .i64 0, .int .u64 0, .string s] 24))
          have P0_5a := box (Whole1.made w5 24 #[.int .u8 4, .int .i64 0, .int .u64 0, .string s])
          have HT2 := box (HT.out.below B5a.out)
          go_wp2_with fail
          refine (ST.out _ HT2.out).mono ?_
          rintro e w6 ⟨rfl, hb⟩
          have B6 := box (Below.grown B5a.out (Only.below hb none) B5a.out.size (by simp))
          have P0_6 := box (P0_5a.out.below hb P0_5a.out.lt)
          clear hb
          have B6a := box (Below.alloc B6.out B6.out.size (.cells #[.int .u8 0, .int .i64 0, .int .u64 0, .string ⟨#[]⟩] 24))
          have P0_6a := box (P0_6.out.alloc (.cells #[.int .u8 0, .int .i64 0, .int .u64 0, .string ⟨#[]⟩] 24))
          have P1_6a := box (Whole1.made w6 24 #[.int .u8 0, .int .i64 0, .int .u64 0, .string ⟨#[]⟩])
          have c00 : (w6.alloc (.cells #[.int .u8 0, .int .i64 0, .int .u64 0, .string ⟨#[]⟩] 24)).cell? ⟨w5.heap.size, 0, none⟩ = some (.int .u8 4) := P0_6a.out.cell 0
          have c01 : (w6.alloc (.cells #[.int .u8 0, .int .i64 0, .int .u64 0, .string ⟨#[]⟩] 24)).cell? ⟨w5.heap.size, 1, none⟩ = some (.int .i64 0) := P0_6a.out.cell 1
          have c02 : (w6.alloc (.cells #[.int .u8 0, .int .i64 0, .int .u64 0, .string ⟨#[]⟩] 24)).cell? ⟨w5.heap.size, 2, none⟩ = some (.int .u64 0) := P0_6a.out.cell 2
          have c03 : (w6.alloc (.cells #[.int .u8 0, .int .i64 0, .int .u64 0, .string ⟨#[]⟩] 24)).cell? ⟨w5.heap.size, 3, none⟩ = some (.string s) := P0_6a.out.cell 3
          have c10 : (w6.alloc (.cells #[.int .u8 0, .int .i64 0, .int .u64 0, .string ⟨#[]⟩] 24)).cell? ⟨w6.heap.size, 0, none⟩ = some (.int .u8 0) := P1_6a.out.cell 0
          have c11 : (w6.alloc (.cells #[.int .u8 0, .int .i64 0, .int .u64 0, .string ⟨#[]⟩] 24)).cell? ⟨w6.heap.size, 1, none⟩ = some (.int .i64 0) := P1_6a.out.cell 1
          have c12 : (w6.alloc (.cells #[.int .u8 0, .int .i64 0, .int .u64 0, .string ⟨#[]⟩] 24)).cell? ⟨w6.heap.size, 2, none⟩ = some (.int .u64 0) := P1_6a.out.cell 2
          have c13 : (w6.alloc (.cells #[.int .u8 0, .int .i64 0, .int .u64 0, .string ⟨#[]⟩] 24)).cell? ⟨w6.heap.size, 3, none⟩ = some (.string ⟨#[]⟩) := P1_6a.out.cell 3
          have HT3 := box (HT.out.below B6a.out)
          go_wp2_with fail
          refine (VV.out _ HT3.out).mono ?_
          rintro e w7 ⟨rfl, hb⟩
          have B7 := box (Below.grown B6a.out (Only.below hb none) B6a.out.size (by simp))
          have P0_7 := box (P0_6a.out.below hb P0_6a.out.lt)
          have P1_7 := box (P1_6a.out.below hb P1_6a.out.lt)
          clear hb
          clear c00 c01 c02 c03
          clear c10 c11 c12 c13
          have c10 : w7.cell? ⟨w6.heap.size, 0, none⟩ = some (.int .u8 0) := P1_7.out.cell 0
          have c11 : w7.cell? ⟨w6.heap.size, 1, none⟩ = some (.int .i64 0) := P1_7.out.cell 1
          have c12 : w7.cell? ⟨w6.heap.size, 2, none⟩ = some (.int .u64 0) := P1_7.out.cell 2
          have c13 : w7.cell? ⟨w6.heap.size, 3, none⟩ = some (.string ⟨#[]⟩) := P1_7.out.cell 3
          have HT4 := box (HT.out.below B7.out)
          go_wp2_with fail
          refine (alive04 _ HT4.out).mono ?_
          rintro e w8 ⟨rfl, hb⟩
          have B8 := box (Below.grown B7.out (Only.below hb none) B7.out.size (by simp))
          have P0_8 := box (P0_7.out.below hb P0_7.out.lt)
          have P1_8 := box (P1_7.out.below hb P1_7.out.lt)
          clear hb
          go_wp2_with fail
          go_ret
          exact ⟨rfl, B8.out⟩
      | true =>
        have VV : Box (∀ W, Tabs W → Calls Tryd.prog 27 #[.string s] W fun e w' => e = .returned (.bool true) ∧ Below W.heap.size W w') := box (fun W h => by have := VV0.out W h; have e5 : Lib.validD s.data.toList = true := hv; rw [e5] at this; exact this)
        have ST := box (fun W h => string_ok s W h h100 hv)
        have K5 := box (fun W h => check_five s W (by omega) hv h)
        clear hv VV0
        cases is
        · go_enter Tryd.func4, Tryd.ntmps4
          go_wp2_with fail
          refine (null_any _).mono ?_
          rintro e w1 ⟨rfl, hb⟩
          have B1 := box hb
          clear hb
          go_wp2_with fail
          refine (bool_any _ _).mono ?_
          rintro e w2 ⟨rfl, hb⟩
          have B2 := box (Below.grown B1.out (Only.below hb none) B1.out.size (by simp))
          clear hb
          go_wp2_with fail
          refine (int_any _ _).mono ?_
          rintro e w3 ⟨rfl, hb⟩
          have B3 := box (Below.grown B2.out (Only.below hb none) B2.out.size (by simp))
          clear hb
          go_wp2_with fail
          refine (RL.out _).mono ?_
          rintro e w4 ⟨rfl, hb⟩
          have B4 := box (Below.grown B3.out (Only.below hb none) B3.out.size (by simp))
          clear hb
          go_wp2_with fail
          refine (RC.out _).mono ?_
          rintro e wq ⟨rfl, rfl⟩
          go_wp2_with fail
          refine (BY.out _).mono ?_
          rintro e w5 ⟨rfl, hb⟩
          have B5 := box (Below.grown B4.out (Only.below hb none) B4.out.size (by simp))
          clear hb
          have B5a := box (Below.alloc B5.out B5.out.size (.cells #[.int .u8 4, .int .i64 0, .int .u64 0, .string s] 24))
          have P0_5a := box (Whole1.made w5 24 #[.int .u8 4, .int .i64 0, .int .u64 0, .string s])
          have HT2 := box (HT.out.below B5a.out)
          go_wp2_with fail
          refine (ST.out _ HT2.out).mono ?_
          rintro e w6 ⟨rfl, hb⟩
          have B6 := box (Below.grown B5a.out (Only.below hb none) B5a.out.size (by simp))
          have P0_6 := box (P0_5a.out.below hb P0_5a.out.lt)
          clear hb
          have B6a := box (Below.alloc B6.out B6.out.size (.cells #[.int .u8 5, .int .i64 0, .int .u64 0, .string s] 24))
          have P0_6a := box (P0_6.out.alloc (.cells #[.int .u8 5, .int .i64 0, .int .u64 0, .string s] 24))
          have P1_6a := box (Whole1.made w6 24 #[.int .u8 5, .int .i64 0, .int .u64 0, .string s])
          have c00 : (w6.alloc (.cells #[.int .u8 5, .int .i64 0, .int .u64 0, .string s] 24)).cell? ⟨w5.heap.size, 0, none⟩ = some (.int .u8 4) := P0_6a.out.cell 0
          have c01 : (w6.alloc (.cells #[.int .u8 5, .int .i64 0, .int .u64 0, .string s] 24)).cell? ⟨w5.heap.size, 1, none⟩ = some (.int .i64 0) := P0_6a.out.cell 1
          have c02 : (w6.alloc (.cells #[.int .u8 5, .int .i64 0, .int .u64 0, .string s] 24)).cell? ⟨w5.heap.size, 2, none⟩ = some (.int .u64 0) := P0_6a.out.cell 2
          have c03 : (w6.alloc (.cells #[.int .u8 5, .int .i64 0, .int .u64 0, .string s] 24)).cell? ⟨w5.heap.size, 3, none⟩ = some (.string s) := P0_6a.out.cell 3
          have c10 : (w6.alloc (.cells #[.int .u8 5, .int .i64 0, .int .u64 0, .string s] 24)).cell? ⟨w6.heap.size, 0, none⟩ = some (.int .u8 5) := P1_6a.out.cell 0
          have c11 : (w6.alloc (.cells #[.int .u8 5, .int .i64 0, .int .u64 0, .string s] 24)).cell? ⟨w6.heap.size, 1, none⟩ = some (.int .i64 0) := P1_6a.out.cell 1
          have c12 : (w6.alloc (.cells #[.int .u8 5, .int .i64 0, .int .u64 0, .string s] 24)).cell? ⟨w6.heap.size, 2, none⟩ = some (.int .u64 0) := P1_6a.out.cell 2
          have c13 : (w6.alloc (.cells #[.int .u8 5, .int .i64 0, .int .u64 0, .string s] 24)).cell? ⟨w6.heap.size, 3, none⟩ = some (.string s) := P1_6a.out.cell 3
          have HT3 := box (HT.out.below B6a.out)
          go_wp2_with fail
          refine (VV.out _ HT3.out).mono ?_
          rintro e w7 ⟨rfl, hb⟩
          have B7 := box (Below.grown B6a.out (Only.below hb none) B6a.out.size (by simp))
          have P0_7 := box (P0_6a.out.below hb P0_6a.out.lt)
          have P1_7 := box (P1_6a.out.below hb P1_6a.out.lt)
          clear hb
          clear c00 c01 c02 c03
          clear c10 c11 c12 c13
          have c00 : w7.cell? ⟨w5.heap.size, 0, none⟩ = some (.int .u8 4) := P0_7.out.cell 0
          have c01 : w7.cell? ⟨w5.heap.size, 1, none⟩ = some (.int .i64 0) := P0_7.out.cell 1
          have c02 : w7.cell? ⟨w5.heap.size, 2, none⟩ = some (.int .u64 0) := P0_7.out.cell 2
          have c03 : w7.cell? ⟨w5.heap.size, 3, none⟩ = some (.string s) := P0_7.out.cell 3
          have c10 : w7.cell? ⟨w6.heap.size, 0, none⟩ = some (.int .u8 5) := P1_7.out.cell 0
          have c11 : w7.cell? ⟨w6.heap.size, 1, none⟩ = some (.int .i64 0) := P1_7.out.cell 1
          have c12 : w7.cell? ⟨w6.heap.size, 2, none⟩ = some (.int .u64 0) := P1_7.out.cell 2
          have c13 : w7.cell? ⟨w6.heap.size, 3, none⟩ = some (.string s) := P1_7.out.cell 3
          go_wp2_with fail
          refine (K4.out _).mono ?_
          rintro e w8 ⟨rfl, hb⟩
          have B8 := box (Below.grown B7.out (Only.below hb none) B7.out.size (by simp))
          have P0_8 := box (P0_7.out.below hb P0_7.out.lt)
          have P1_8 := box (P1_7.out.below hb P1_7.out.lt)
          clear hb
          clear c00 c01 c02 c03
          clear c10 c11 c12 c13
          have c10 : w8.cell? ⟨w6.heap.size, 0, none⟩ = some (.int .u8 5) := P1_8.out.cell 0
          have c11 : w8.cell? ⟨w6.heap.size, 1, none⟩ = some (.int .i64 0) := P1_8.out.cell 1
          have c12 : w8.cell? ⟨w6.heap.size, 2, none⟩ = some (.int .u64 0) := P1_8.out.cell 2
          have c13 : w8.cell? ⟨w6.heap.size, 3, none⟩ = some (.string s) := P1_8.out.cell 3
          have HT4 := box (HT.out.below B8.out)
          go_wp2_with fail
          refine (K5.out _ HT4.out).mono ?_
          rintro e w9 ⟨rfl, hb⟩
          have B9 := box (Below.grown B8.out (Only.below hb none) B8.out.size (by simp))
          have P0_9 := box (P0_8.out.below hb P0_8.out.lt)
          have P1_9 := box (P1_8.out.below hb P1_8.out.lt)
          clear hb
          clear c10 c11 c12 c13
          go_wp2_with fail
          refine (RL.out _).mono ?_
          rintro e w10 ⟨rfl, hb⟩
          have B10 := box (Below.grown B9.out (Only.below hb none) B9.out.size (by simp))
          have P0_10 := box (P0_9.out.below hb P0_9.out.lt)
          have P1_10 := box (P1_9.out.below hb P1_9.out.lt)
          clear hb
          go_wp2_with fail
          refine (K3.out _).mono ?_
          rintro e w11 ⟨rfl, hb⟩
          have B11 := box (Below.grown B10.out (Only.below hb none) B10.out.size (by simp))
          have P0_11 := box (P0_10.out.below hb P0_10.out.lt)
          have P1_11 := box (P1_10.out.below hb P1_10.out.lt)
          clear hb
          have HT5 := box (HT.out.below B11.out)
          go_wp2_with fail
          refine (alive04 _ HT5.out).mono ?_
          rintro e w12 ⟨rfl, hb⟩
          have B12 := box (Below.grown B11.out (Only.below hb none) B11.out.size (by simp))
          have P0_12 := box (P0_11.out.below hb P0_11.out.lt)
          have P1_12 := box (P1_11.out.below hb P1_11.out.lt)
          clear hb
          go_wp2_with fail
          go_ret
          exact ⟨rfl, B12.out⟩
        · go_enter Tryd.func4, Tryd.ntmps4
          go_wp2_with fail
          refine (null_any _).mono ?_
          rintro e w1 ⟨rfl, hb⟩
          have B1 := box hb
          clear hb
          go_wp2_with fail
          refine (bool_any _ _).mono ?_
          rintro e w2 ⟨rfl, hb⟩
          have B2 := box (Below.grown B1.out (Only.below hb none) B1.out.size (by simp))
          clear hb
          go_wp2_with fail
          refine (int_any _ _).mono ?_
          rintro e w3 ⟨rfl, hb⟩
          have B3 := box (Below.grown B2.out (Only.below hb none) B2.out.size (by simp))
          clear hb
          go_wp2_with fail
          refine (RL.out _).mono ?_
          rintro e w4 ⟨rfl, hb⟩
          have B4 := box (Below.grown B3.out (Only.below hb none) B3.out.size (by simp))
          clear hb
          go_wp2_with fail
          refine (RC.out _).mono ?_
          rintro e wq ⟨rfl, rfl⟩
          go_wp2_with fail
          refine (BY.out _).mono ?_
          rintro e w5 ⟨rfl, hb⟩
          have B5 := box (Below.grown B4.out (Only.below hb none) B4.out.size (by simp))
          clear hb
          have B5a := box (Below.alloc B5.out B5.out.size (.cells #[.int .u8 4, .int .i64 0, .int .u64 0, .string s] 24))
          have P0_5a := box (Whole1.made w5 24 #[.int .u8 4, .int .i64 0, .int .u64 0, .string s])
          have HT2 := box (HT.out.below B5a.out)
          go_wp2_with fail
          refine (ST.out _ HT2.out).mono ?_
          rintro e w6 ⟨rfl, hb⟩
          have B6 := box (Below.grown B5a.out (Only.below hb none) B5a.out.size (by simp))
          have P0_6 := box (P0_5a.out.below hb P0_5a.out.lt)
          clear hb
          have B6a := box (Below.alloc B6.out B6.out.size (.cells #[.int .u8 5, .int .i64 0, .int .u64 0, .string s] 24))
          have P0_6a := box (P0_6.out.alloc (.cells #[.int .u8 5, .int .i64 0, .int .u64 0, .string s] 24))
          have P1_6a := box (Whole1.made w6 24 #[.int .u8 5, .int .i64 0, .int .u64 0, .string s])
          have c00 : (w6.alloc (.cells #[.int .u8 5, .int .i64 0, .int .u64 0, .string s] 24)).cell? ⟨w5.heap.size, 0, none⟩ = some (.int .u8 4) := P0_6a.out.cell 0
          have c01 : (w6.alloc (.cells #[.int .u8 5, .int .i64 0, .int .u64 0, .string s] 24)).cell? ⟨w5.heap.size, 1, none⟩ = some (.int .i64 0) := P0_6a.out.cell 1
          have c02 : (w6.alloc (.cells #[.int .u8 5, .int .i64 0, .int .u64 0, .string s] 24)).cell? ⟨w5.heap.size, 2, none⟩ = some (.int .u64 0) := P0_6a.out.cell 2
          have c03 : (w6.alloc (.cells #[.int .u8 5, .int .i64 0, .int .u64 0, .string s] 24)).cell? ⟨w5.heap.size, 3, none⟩ = some (.string s) := P0_6a.out.cell 3
          have c10 : (w6.alloc (.cells #[.int .u8 5, .int .i64 0, .int .u64 0, .string s] 24)).cell? ⟨w6.heap.size, 0, none⟩ = some (.int .u8 5) := P1_6a.out.cell 0
          have c11 : (w6.alloc (.cells #[.int .u8 5, .int .i64 0, .int .u64 0, .string s] 24)).cell? ⟨w6.heap.size, 1, none⟩ = some (.int .i64 0) := P1_6a.out.cell 1
          have c12 : (w6.alloc (.cells #[.int .u8 5, .int .i64 0, .int .u64 0, .string s] 24)).cell? ⟨w6.heap.size, 2, none⟩ = some (.int .u64 0) := P1_6a.out.cell 2
          have c13 : (w6.alloc (.cells #[.int .u8 5, .int .i64 0, .int .u64 0, .string s] 24)).cell? ⟨w6.heap.size, 3, none⟩ = some (.string s) := P1_6a.out.cell 3
          have HT3 := box (HT.out.below B6a.out)
          go_wp2_with fail
          refine (VV.out _ HT3.out).mono ?_
          rintro e w7 ⟨rfl, hb⟩
          have B7 := box (Below.grown B6a.out (Only.below hb none) B6a.out.size (by simp))
          have P0_7 := box (P0_6a.out.below hb P0_6a.out.lt)
          have P1_7 := box (P1_6a.out.below hb P1_6a.out.lt)
          clear hb
          clear c00 c01 c02 c03
          clear c10 c11 c12 c13
          have c00 : w7.cell? ⟨w5.heap.size, 0, none⟩ = some (.int .u8 4) := P0_7.out.cell 0
          have c01 : w7.cell? ⟨w5.heap.size, 1, none⟩ = some (.int .i64 0) := P0_7.out.cell 1
          have c02 : w7.cell? ⟨w5.heap.size, 2, none⟩ = some (.int .u64 0) := P0_7.out.cell 2
          have c03 : w7.cell? ⟨w5.heap.size, 3, none⟩ = some (.string s) := P0_7.out.cell 3
          have c10 : w7.cell? ⟨w6.heap.size, 0, none⟩ = some (.int .u8 5) := P1_7.out.cell 0
          have c11 : w7.cell? ⟨w6.heap.size, 1, none⟩ = some (.int .i64 0) := P1_7.out.cell 1
          have c12 : w7.cell? ⟨w6.heap.size, 2, none⟩ = some (.int .u64 0) := P1_7.out.cell 2
          have c13 : w7.cell? ⟨w6.heap.size, 3, none⟩ = some (.string s) := P1_7.out.cell 3
          go_wp2_with fail
          refine (K4.out _).mono ?_
          rintro e w8 ⟨rfl, hb⟩
          have B8 := box (Below.grown B7.out (Only.below hb none) B7.out.size (by simp))
          have P0_8 := box (P0_7.out.below hb P0_7.out.lt)
          have P1_8 := box (P1_7.out.below hb P1_7.out.lt)
          clear hb
          clear c00 c01 c02 c03
          clear c10 c11 c12 c13
          have c10 : w8.cell? ⟨w6.heap.size, 0, none⟩ = some (.int .u8 5) := P1_8.out.cell 0
          have c11 : w8.cell? ⟨w6.heap.size, 1, none⟩ = some (.int .i64 0) := P1_8.out.cell 1
          have c12 : w8.cell? ⟨w6.heap.size, 2, none⟩ = some (.int .u64 0) := P1_8.out.cell 2
          have c13 : w8.cell? ⟨w6.heap.size, 3, none⟩ = some (.string s) := P1_8.out.cell 3
          have HT4 := box (HT.out.below B8.out)
          go_wp2_with fail
          refine (K5.out _ HT4.out).mono ?_
          rintro e w9 ⟨rfl, hb⟩
          have B9 := box (Below.grown B8.out (Only.below hb none) B8.out.size (by simp))
          have P0_9 := box (P0_8.out.below hb P0_8.out.lt)
          have P1_9 := box (P1_8.out.below hb P1_8.out.lt)
          clear hb
          clear c10 c11 c12 c13
          go_wp2_with fail
          refine (RL.out _).mono ?_
          rintro e w10 ⟨rfl, hb⟩
          have B10 := box (Below.grown B9.out (Only.below hb none) B9.out.size (by simp))
          have P0_10 := box (P0_9.out.below hb P0_9.out.lt)
          have P1_10 := box (P1_9.out.below hb P1_9.out.lt)
          clear hb
          go_wp2_with fail
          refine (K3.out _).mono ?_
          rintro e w11 ⟨rfl, hb⟩
          have B11 := box (Below.grown B10.out (Only.below hb none) B10.out.size (by simp))
          have P0_11 := box (P0_10.out.below hb P0_10.out.lt)
          have P1_11 := box (P1_10.out.below hb P1_10.out.lt)
          clear hb
          have HT5 := box (HT.out.below B11.out)
          go_wp2_with fail
          refine (alive04 _ HT5.out).mono ?_
          rintro e w12 ⟨rfl, hb⟩
          have B12 := box (Below.grown B11.out (Only.below hb none) B11.out.size (by simp))
          have P0_12 := box (P0_11.out.below hb P0_11.out.lt)
          have P1_12 := box (P1_11.out.below hb P1_11.out.lt)
          clear hb
          go_wp2_with fail
          go_ret
          exact ⟨rfl, B12.out⟩
end Go.Proofs.YtafialodjnjihaaDoor
