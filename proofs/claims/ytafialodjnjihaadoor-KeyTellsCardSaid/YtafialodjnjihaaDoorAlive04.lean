/- The examples of the chapter on values. Condition: utf8's two tables read as the program lays them. -/
import Derived.Test.YtafialodjnjihaaDoorLess
import Derived.OwnWalk
namespace Go.Proofs.YtafialodjnjihaaDoor
open Go Go.RowKit
set_option maxRecDepth 100000
set_option linter.unusedVariables false

theorem frombits60 (x : Nat) (w : World) : (callFunc 60 #[.int .u64 x]).run Tryd.prog w = .ok (.value (.float .f64 x)) w := frombits x w
theorem nan_any (w : World) : Calls Tryd.prog 40 #[] w fun e w' => e = .returned (.float .f64 9221120237041090561) ∧ w = w' := by
  have fb : ∀ w, (callFunc 60 #[.int .u64 9221120237041090561]).run Tryd.prog w = .ok (.value (.float .f64 9221120237041090561)) w := fun w => frombits60 9221120237041090561 w
  go_enter Tryd.func40, Tryd.ntmps40
  go_wp2
  go_ret
  exact ⟨rfl, rfl⟩
theorem sign_nan (w : World) : Calls Tryd.prog 41 #[.float .f64 9221120237041090561, .float .f64 13830554455654793216] w fun e w' => e = .returned (.float .f64 18444492273895866369) ∧ w = w' := by
  have fb : ∀ w, (callFunc 60 #[.int .u64 18444492273895866369]).run Tryd.prog w = .ok (.value (.float .f64 18444492273895866369)) w := fun w => frombits60 18444492273895866369 w
  have b1 := fun w => bits64 9221120237041090561 w
  have b2 := fun w => bits64 13830554455654793216 w
  have e1 : bits BinOp.andNot IntKind.u64 9221120237041090561 9223372036854775808 = 9221120237041090561 := by decide +kernel
  have e2 : bits BinOp.and IntKind.u64 13830554455654793216 9223372036854775808 = 9223372036854775808 := by decide +kernel
  have e3 : bits BinOp.or IntKind.u64 9221120237041090561 9223372036854775808 = 18444492273895866369 := by decide +kernel
  go_enter Tryd.func41, Tryd.ntmps41
  go_wp2
  go_ret
  exact ⟨rfl, rfl⟩
theorem sign_zero (w : World) : Calls Tryd.prog 41 #[.float .f64 0, .float .f64 13830554455654793216] w fun e w' => e = .returned (.float .f64 9223372036854775808) ∧ w = w' := by
  have fb : ∀ w, (callFunc 60 #[.int .u64 9223372036854775808]).run Tryd.prog w = .ok (.value (.float .f64 9223372036854775808)) w := fun w => frombits60 9223372036854775808 w
  have b1 := fun w => bits64 0 w
  have b2 := fun w => bits64 13830554455654793216 w
  have e1 : bits BinOp.andNot IntKind.u64 0 9223372036854775808 = 0 := by decide +kernel
  have e2 : bits BinOp.and IntKind.u64 13830554455654793216 9223372036854775808 = 9223372036854775808 := by decide +kernel
  have e3 : bits BinOp.or IntKind.u64 0 9223372036854775808 = 9223372036854775808 := by decide +kernel
  go_enter Tryd.func41, Tryd.ntmps41
  go_wp2
  go_ret
  exact ⟨rfl, rfl⟩
theorem real_is (x c : Nat) (h : Rl.canon x = c) (w : World) : Calls Tryd.prog 22 #[.float .f64 x] w fun e w' => e = .returned (.agg #[.int .u8 3, .int .i64 0, .int .u64 c, .string ⟨#[]⟩]) ∧ Below w.heap.size w w' := by
  have := real_any x w
  rw [h] at this; exact this
theorem row_nil (w : World) : Calls Tryd.prog 16 #[.slice none 0 0] w fun e w' => e = .returned (.int .i64 2) ∧ w = w' := by
  go_enter Tryd.func16, Tryd.ntmps16
  go_wp2_with fail
  go_ret
  exact ⟨rfl, rfl⟩
theorem canon_a : Rl.canon 9221120237041090561 = 9221120237041090561 := by decide +kernel
theorem canon_b : Rl.canon 18444492273895866369 = 9221120237041090561 := by decide +kernel
theorem canon_c : Rl.canon 9223372036854775808 = 9223372036854775808 := by decide +kernel
theorem canon_d : Rl.canon 0 = 0 := by decide +kernel
theorem less_zero (w : World) : Calls Tryd.prog 28 #[.agg #[.int .u8 3, .int .i64 0, .int .u64 9223372036854775808, .string ⟨#[]⟩], .agg #[.int .u8 3, .int .i64 0, .int .u64 0, .string ⟨#[]⟩]] w fun e w' => e = .returned (.bool true) ∧ Below w.heap.size w w' := by
  have h := less_v ⟨3, 0, 9223372036854775808, ⟨#[]⟩⟩ ⟨3, 0, 0, ⟨#[]⟩⟩ ⟨by decide, by decide, by decide, by decide⟩ ⟨by decide, by decide, by decide, by decide⟩ w
  have e : lessV ⟨3, 0, 9223372036854775808, ⟨#[]⟩⟩ ⟨3, 0, 0, ⟨#[]⟩⟩ = true := by decide +kernel
  rw [e] at h; exact h
theorem less_null (w : World) : Calls Tryd.prog 28 #[.agg #[.int .u8 0, .int .i64 0, .int .u64 0, .string ⟨#[]⟩], .agg #[.int .u8 1, .int .i64 0, .int .u64 0, .string ⟨#[]⟩]] w fun e w' => e = .returned (.bool true) ∧ Below w.heap.size w w' := by
  have h := less_v ⟨0, 0, 0, ⟨#[]⟩⟩ ⟨1, 0, 0, ⟨#[]⟩⟩ ⟨by decide, by decide, by decide, by decide⟩ ⟨by decide, by decide, by decide, by decide⟩ w
  have e : lessV ⟨0, 0, 0, ⟨#[]⟩⟩ ⟨1, 0, 0, ⟨#[]⟩⟩ = true := by decide +kernel
  rw [e] at h; exact h
theorem less_ab (w : World) : Calls Tryd.prog 28 #[.agg #[.int .u8 5, .int .i64 0, .int .u64 0, .string ⟨#[97]⟩], .agg #[.int .u8 4, .int .i64 0, .int .u64 0, .string ⟨#[98]⟩]] w fun e w' => e = .returned (.bool false) ∧ Below w.heap.size w w' := by
  have h := less_v ⟨5, 0, 0, ⟨#[97]⟩⟩ ⟨4, 0, 0, ⟨#[98]⟩⟩ ⟨by decide, by decide, by decide, by decide⟩ ⟨by decide, by decide, by decide, by decide⟩ w
  have e : lessV ⟨5, 0, 0, ⟨#[97]⟩⟩ ⟨4, 0, 0, ⟨#[98]⟩⟩ = false := by decide +kernel
  rw [e] at h; exact h
theorem valid_a : valid ⟨#[97]⟩ = true := by decide +kernel
theorem valid_ff : valid ⟨#[255]⟩ = false := by decide +kernel
theorem check_nine (w : World) : Calls Tryd.prog 14 #[.agg #[.int .u8 9, .int .i64 0, .int .u64 0, .string ⟨#[]⟩]] w fun e w' => e = .returned (.int .i64 2) ∧ Below w.heap.size w w' := check6 9 0 0 ⟨#[]⟩ w (by decide)
theorem infoB : (Tryd.prog.info? 5).map (fun i => (i.zero, i.size, i.bytes)) = some (some (.int .u8 0), 1, 1) := by kernel_rfl
def byteV (b : UInt8) : Value := .int .u8 b.toNat
theorem addr_add0 (g j : Nat) : (⟨g, 0, none⟩ : Addr).add j = ⟨g, j, none⟩ := by
  unfold Addr.add; split <;> simp_all
theorem str_of_row {w : World} {base : Nat} {v : Value} (l : List UInt8) (h : w.ownsRow base 5 1 v l.length (l.map byteV)) :
    (convert 60 9 v).run Tryd.prog w = .ok (.string ⟨l.toArray⟩) w := by
  rcases h.2 with ⟨rfl, h0⟩ | ⟨g, cap, cur, rfl, _, _, _, _, _, _⟩
  · obtain rfl : l = [] := List.eq_nil_of_length_eq_zero h0
    rw [run_convert_bytes_nil w 60 5 Tryd.underlying60 Tryd.underlying5 0 0 9 Tryd.underlying9]; rfl
  · refine run_convert_bytes_back (P := Tryd.prog) w 60 9 5 ⟨g, 0, none⟩ cap l Tryd.underlying60 Tryd.underlying5 Tryd.underlying9 (fun j hj => ?_)
    rw [addr_add0, h.cellAt j (by omega)]
    simp [hj, byteV]
theorem made_one (z : Value) (n : Nat) : (madeCells #[z] n).toList = List.replicate n z := by
  apply List.ext_getElem?
  intro i
  by_cases h : i < n
  · simp [madeCells, Nat.mod_one, h]
  · simp [madeCells, Nat.mod_one, h]
theorem zeros_row (n : Nat) : (madeCells #[Value.int .u8 0] n).toList = (List.replicate n (0 : UInt8)).map byteV := by
  rw [made_one]; simp [byteV]
def zeros (n : Nat) : ByteArray := ⟨(List.replicate n (0 : UInt8)).toArray⟩
theorem zeros_size (n : Nat) : (zeros n).size = n := by simp [zeros, ByteArray.size]
theorem zeros_is (n : Nat) : ∃ Z, zeros n = Z ∧ Z.size = n := ⟨_, rfl, zeros_size n⟩

set_option maxHeartbeats 8000000 in
theorem alive04 (w : World) (hT : Tabs w) : Calls Tryd.prog 12 #[] w fun e w' => e = .returned (.bool true) ∧ Below w.heap.size w w' := by
  obtain ⟨i0, hi, hz0, hz1, hz2⟩ := info_parts infoB
  obtain ⟨Z, hZ, hZs⟩ := zeros_is 101
  have CZ := box (fun W => bytes_long Z W (by omega))
  have HT := box hT
  clear hT
  go_enter Tryd.func12, Tryd.ntmps12
  go_wp2_with fail
  refine (nan_any _).mono ?_
  rintro e w1 ⟨rfl, rfl⟩
  go_wp2_with fail
  refine (string_form _ _ HT.out (by decide) valid_ff).mono ?_
  rintro e w1 ⟨rfl, hb1⟩
  have B1 := box hb1
  clear hb1
  go_wp2_with (first | (at_make; refine wpList_make_full _ rfl (.const (.int .i64 101)) (.const (.int .i64 101)) 60 rfl w.heap.size 5 i0 (.int .u8 0) 1 Tryd.underlying60 hi hz0 hz1 .i64 .i64 101 101 101 rfl rfl rfl rfl ?c1 ?c2 ?c3 ?_))
  case c1 => rw [hz2]; decide
  case c2 => decide
  case c3 => have := B1.out.size; simp; omega
  intro w2 hown hg
  rw [zeros_row] at hown
  have hcv := str_of_row (List.replicate 101 0) (by rw [List.length_replicate]; exact hown)
  have e1 : (⟨(List.replicate 101 (0 : UInt8)).toArray⟩ : ByteArray) = Z := hZ
  rw [e1] at hcv
  have B2 := box (Below.grown (Below.alloc B1.out B1.out.size (.cells #[.int .u8 0, .int .i64 0, .int .u64 0, .string ⟨#[]⟩] 24)) hg (Nat.le_trans B1.out.size (by simp)) (by simp))
  clear hown hg e1 hZ hz0 hz1 hz2 hi
  go_wp2_with fail
  refine (CZ.out _).mono ?_
  rintro e w3 ⟨rfl, hb⟩
  have B3 := box (Below.alloc (Below.grown B2.out (Only.below hb none) B2.out.size (by simp)) (Below.grown B2.out (Only.below hb none) B2.out.size (by simp)).size (.cells #[.int .u8 0, .int .i64 0, .int .u64 0, .string ⟨#[]⟩] 24))
  clear hb hcv
  go_wp2_with fail
  refine (string_ok _ _ (HT.out.below B3.out) (by decide) valid_a).mono ?_
  rintro e w4 ⟨rfl, hb⟩
  have B4 := box (Below.grown B3.out (Only.below hb none) B3.out.size (by simp))
  have B4a := box (Below.alloc B4.out B4.out.size (.cells #[.int .u8 5, .int .i64 0, .int .u64 0, .string ⟨#[97]⟩] 24))
  have P6 := box (Whole1.made w4 24 #[.int .u8 5, .int .i64 0, .int .u64 0, .string ⟨#[97]⟩])
  clear hb
  go_wp2_with fail
  refine (bytes_ok _ _ (by decide)).mono ?_
  rintro e w5 ⟨rfl, hb⟩
  have B5 := box (Below.grown B4a.out (Only.below hb none) B4a.out.size (by simp))
  have B5a := box (Below.alloc B5.out B5.out.size (.cells #[.int .u8 4, .int .i64 0, .int .u64 0, .string ⟨#[98]⟩] 24))
  have P6a := box ((P6.out.below hb P6.out.lt).alloc (.cells #[.int .u8 4, .int .i64 0, .int .u64 0, .string ⟨#[98]⟩] 24))
  have P8 := box (Whole1.made w5 24 #[.int .u8 4, .int .i64 0, .int .u64 0, .string ⟨#[98]⟩])
  clear hb
  go_wp2_with fail
  refine (real_is _ _ canon_a _).mono ?_
  rintro e w6 ⟨rfl, hb⟩
  have B6 := box (Below.grown B5a.out (Only.below hb none) B5a.out.size (by simp))
  have P6_6 := box (P6a.out.below hb P6a.out.lt)
  have P8_6 := box (P8.out.below hb P8.out.lt)
  clear hb
  go_wp2_with fail
  refine (sign_nan _).mono ?_
  rintro e wq ⟨rfl, rfl⟩
  go_wp2_with fail
  refine (real_is _ _ canon_b _).mono ?_
  rintro e w7 ⟨rfl, hb⟩
  have B7 := box (Below.grown B6.out (Only.below hb none) B6.out.size (by simp))
  have P6_7 := box (P6_6.out.below hb P6_6.out.lt)
  have P8_7 := box (P8_6.out.below hb P8_6.out.lt)
  clear hb
  go_wp2_with fail
  refine (sign_zero _).mono ?_
  rintro e wq ⟨rfl, rfl⟩
  go_wp2_with fail
  refine (real_is _ _ canon_c _).mono ?_
  rintro e w8 ⟨rfl, hb⟩
  have B8 := box (Below.grown B7.out (Only.below hb none) B7.out.size (by simp))
  have P6_8 := box (P6_7.out.below hb P6_7.out.lt)
  have P8_8 := box (P8_7.out.below hb P8_7.out.lt)
  clear hb
  go_wp2_with fail
  refine (real_is _ _ canon_d _).mono ?_
  rintro e w9 ⟨rfl, hb⟩
  have B9 := box (Below.grown B8.out (Only.below hb none) B8.out.size (by simp))
  have P6_9 := box (P6_8.out.below hb P6_8.out.lt)
  have P8_9 := box (P8_8.out.below hb P8_8.out.lt)
  clear hb
  go_wp2_with fail
  refine (less_zero _).mono ?_
  rintro e w10 ⟨rfl, hb⟩
  have B10 := box (Below.grown B9.out (Only.below hb none) B9.out.size (by simp))
  have P6_10 := box (P6_9.out.below hb P6_9.out.lt)
  have P8_10 := box (P8_9.out.below hb P8_9.out.lt)
  clear hb
  go_wp2_with fail
  refine (null_any _).mono ?_
  rintro e w11 ⟨rfl, hb⟩
  have B11 := box (Below.grown B10.out (Only.below hb none) B10.out.size (by simp))
  have P6_11 := box (P6_10.out.below hb P6_10.out.lt)
  have P8_11 := box (P8_10.out.below hb P8_10.out.lt)
  clear hb
  go_wp2_with fail
  refine (bool_any _ _).mono ?_
  rintro e w12 ⟨rfl, hb⟩
  have B12 := box (Below.grown B11.out (Only.below hb none) B11.out.size (by simp))
  have P6_12 := box (P6_11.out.below hb P6_11.out.lt)
  have P8_12 := box (P8_11.out.below hb P8_11.out.lt)
  clear hb
  go_wp2_with fail
  refine (less_null _).mono ?_
  rintro e w13 ⟨rfl, hb⟩
  have B13 := box (Below.grown B12.out (Only.below hb none) B12.out.size (by simp))
  have P6_13 := box (P6_12.out.below hb P6_12.out.lt)
  have P8_13 := box (P8_12.out.below hb P8_12.out.lt)
  clear hb
  have c60 : w13.cell? ⟨w4.heap.size, 0, none⟩ = some (.int .u8 5) := P6_13.out.cell 0
  have c61 : w13.cell? ⟨w4.heap.size, 1, none⟩ = some (.int .i64 0) := P6_13.out.cell 1
  have c62 : w13.cell? ⟨w4.heap.size, 2, none⟩ = some (.int .u64 0) := P6_13.out.cell 2
  have c63 : w13.cell? ⟨w4.heap.size, 3, none⟩ = some (.string ⟨#[97]⟩) := P6_13.out.cell 3
  have c80 : w13.cell? ⟨w5.heap.size, 0, none⟩ = some (.int .u8 4) := P8_13.out.cell 0
  have c81 : w13.cell? ⟨w5.heap.size, 1, none⟩ = some (.int .i64 0) := P8_13.out.cell 1
  have c82 : w13.cell? ⟨w5.heap.size, 2, none⟩ = some (.int .u64 0) := P8_13.out.cell 2
  have c83 : w13.cell? ⟨w5.heap.size, 3, none⟩ = some (.string ⟨#[98]⟩) := P8_13.out.cell 3
  go_wp2_with fail
  refine (less_ab _).mono ?_
  rintro e w14 ⟨rfl, hb⟩
  have B14 := box (Below.grown B13.out (Only.below hb none) B13.out.size (by simp))
  have P6_14 := box (P6_13.out.below hb P6_13.out.lt)
  have P8_14 := box (P8_13.out.below hb P8_13.out.lt)
  clear hb
  clear c60 c61 c62 c63 c80 c81 c82 c83
  go_wp2_with fail
  refine (check_nine _).mono ?_
  rintro e w15 ⟨rfl, hb⟩
  have B15 := box (Below.grown B14.out (Only.below hb none) B14.out.size (by simp))
  have P6_15 := box (P6_14.out.below hb P6_14.out.lt)
  have P8_15 := box (P8_14.out.below hb P8_14.out.lt)
  clear hb
  go_wp2_with fail
  refine (row_nil _).mono ?_
  rintro e wq ⟨rfl, rfl⟩
  go_wp2_with fail
  go_ret
  exact ⟨rfl, B15.out⟩
end Go.Proofs.YtafialodjnjihaaDoor
