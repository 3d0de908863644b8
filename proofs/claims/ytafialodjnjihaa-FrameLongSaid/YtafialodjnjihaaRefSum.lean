/- The reference's sum of a text is the sum by bits. Condition: the text's length is an int. -/
import Derived.Test.YtafialodjnjihaaSum
namespace Go.Proofs.Ytafialodjnjihaa
open Go Go.RowKit Go.Joins
set_option maxRecDepth 100000
set_option linter.unusedVariables false

theorem bit_even (d : Nat) (h : d % 2 = 0) : Crc.bit d = d / 2 := by unfold Crc.bit; rw [if_neg (by omega)]; simp
theorem bit_odd (d : Nat) (h : d % 2 = 1) : Crc.bit d = d / 2 ^^^ 3988292384 := by unfold Crc.bit; rw [if_pos h]; rfl

set_option maxHeartbeats 1000000 in
theorem refsum_any (s : ByteArray) (w : World) (hs : s.size ≤ 9223372036854775807) :
    Calls Try.prog 51 #[.string s] w fun e w' => e = .returned (.int .u32 (Crc.sum (bytesN s))) ∧ w = w' := by
  have HS2 : (s.size : Int) ≤ 9223372036854775807 := by omega
  clear hs
  go_enter Try.func51, Try.ntmps51
  go_wp2_with fail
  go_loop [3, 4] (fun c i => ∃ k d : Nat, k ≤ s.size ∧ i = .int .i64 k ∧ c = .int .u32 d ∧ d = Crc.run 4294967295 ((bytesN s).take k)) (fun _ i => s.size - (intOf i).toNat)
  case atStart => exact ⟨0, _, Nat.zero_le _, rfl, rfl, rfl⟩
  case round =>
    obtain ⟨k, d, hk, rfl, rfl, hd⟩ := hrel
    have HD := Lib.hid hd
    clear hd
    by_cases hlt : k < s.size
    · have hd : d < 4294967296 := by
        rw [HD.out]
        exact Crc.run_lt _ (fun b hb => bytesN_lt s b (List.mem_of_mem_take hb)) _ (by decide)
      have hb : s[k].toNat < 256 := s[k].toNat_lt
      have hx1 : d ^^^ s[k].toNat < 4294967296 := Nat.xor_lt_two_pow (n := 32) hd (by omega)
      have e1 := xor_u32 d s[k].toNat hd (by omega)
      have hbI : (s[k].toNat : Int) < 256 := by omega
      have E : Hid (Crc.steps 8 (d ^^^ s[k].toNat) = Crc.run 4294967295 ((bytesN s).take (k + 1))) := by
        rw [bytesN_take s k hlt, Crc.run_append, ← HD.out]
        rfl
      have HX := Lib.hid hx1
      clear hd hb hx1
      generalize d ^^^ s[k].toNat = x1 at *
      go_wp2_with fail
      go_loop [3, 5] (fun c j => ∃ q x : Nat, q ≤ 8 ∧ j = .int .i64 q ∧ c = .int .u32 x ∧ x < 4294967296 ∧ Crc.steps (8 - q) x = Crc.steps 8 x1) (fun _ j => 8 - (intOf j).toNat)
      case atStart => exact ⟨0, x1, by omega, rfl, rfl, HX.out, rfl⟩
      case round =>
        obtain ⟨q, x, hq, rfl, rfl, hx, hst⟩ := hrel
        have HST := Lib.hid hst
        have HXX := Lib.hid hx
        clear hst hx
        by_cases hql : q < 8
        · have e2 : Hid (8 - q = (8 - (q + 1)) + 1) := Lib.hid (by omega)
          by_cases ho : x % 2 = 1
          · have ho1 : ((x : Int) % 2 == 1) = true := by simp; omega
            have e3 : bits BinOp.xor IntKind.u32 ((x : Int) / 2 % 4294967296) 3988292384 = ((Crc.bit x : Nat) : Int) := by
              rw [bit_odd x ho]
              have hm : (x : Int) / 2 % 4294967296 = ((x / 2 : Nat) : Int) := by have := HXX.out; omega
              rw [hm]
              have e := xor_u32 (x / 2) 3988292384 (by have := HXX.out; omega) (by decide)
              exact e
            go_wp2_with fail
            go_round
            case rel =>
              refine ⟨q + 1, Crc.bit x, by omega, by go_num, rfl, Crc.bit_lt HXX.out, ?_⟩
              have := HST.out
              rw [e2.out] at this
              exact this
            case measure => simp [intOf]; omega
          · have ho0 : x % 2 = 0 := by omega
            have ho1 : ((x : Int) % 2 == 1) = false := by simp; omega
            have e3 : Hid (((x : Int) / 2 % 4294967296) = ((Crc.bit x : Nat) : Int)) := by
              rw [bit_even x ho0]; exact Lib.hid (by have := HXX.out; omega)
            go_wp2_with fail
            go_round
            case rel =>
              refine ⟨q + 1, Crc.bit x, by omega, by go_num, by rw [← e3.out], Crc.bit_lt HXX.out, ?_⟩
              have := HST.out
              rw [e2.out] at this
              exact this
            case measure => simp [intOf]; omega
        · obtain rfl : q = 8 := by omega
          go_wp2_with fail
          go_round
          case rel => exact ⟨k + 1, x, hlt, by go_num, rfl, by rw [← E.out, ← HST.out]; rfl⟩
          case measure => simp [intOf]; omega
    · obtain rfl : k = s.size := by omega
      have E : Hid (bits BinOp.xor IntKind.u32 IntKind.u32.max d = ((Crc.sum (bytesN s) : Nat) : Int)) := by
        have hd : d < 4294967296 := by
          rw [HD.out]
          exact Crc.run_lt _ (fun b hb => bytesN_lt s b (List.mem_of_mem_take hb)) _ (by decide)
        have h := xor_u32 4294967295 d (by decide) hd
        have hm : IntKind.u32.max = ((4294967295 : Nat) : Int) := by decide
        rw [hm]
        refine h.trans ?_
        rw [HD.out, List.take_of_length_le (by rw [bytesN_len]; exact Nat.le_refl _), Crc.sum, Nat.xor_comm]
      go_wp2_with fail
      go_ret
      exact ⟨by rw [← E.out]; rfl, rfl⟩
end Go.Proofs.Ytafialodjnjihaa
