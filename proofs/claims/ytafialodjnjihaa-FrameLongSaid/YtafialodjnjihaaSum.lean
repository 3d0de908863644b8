/- The program's sum of a text is the sum by bits. Condition: the text's length is an int. -/
import Derived.Test.YtafialodjnjihaaHalf
namespace Go.Proofs.Ytafialodjnjihaa
open Go Go.RowKit Go.Joins
set_option maxRecDepth 100000
set_option linter.unusedVariables false

def bytesN (s : ByteArray) : List Nat := s.data.toList.map UInt8.toNat
theorem bytesN_len (s : ByteArray) : (bytesN s).length = s.size := by simp [bytesN]
theorem bytesN_take (s : ByteArray) (k : Nat) (h : k < s.size) : (bytesN s).take (k + 1) = (bytesN s).take k ++ [s[k].toNat] := by
  unfold bytesN
  rw [← List.map_take, take_snoc s k h, List.map_append, List.map_take]; rfl
theorem bytesN_lt (s : ByteArray) : ∀ b ∈ bytesN s, b < 256 := by
  intro b hb
  obtain ⟨x, _, rfl⟩ := List.mem_map.1 hb
  exact x.toNat_lt

theorem nib_at (m : Nat) (h : m < 16) : nib[m]? = some (.int .u32 (Crc.steps 4 m : Nat)) := by
  rw [← part_full]
  simp [part, h]
theorem nib_cell (w : World) (m : Nat) (h : m < 16) : (w.alloc (.cells nib 94)).cell? ⟨w.heap.size, m, none⟩ = some (.int .u32 (Crc.steps 4 m : Nat)) := by
  rw [← nib_at m h]
  exact cell_alloc_mark_at w nib 94 (0, 0) w.heap.size m rfl

theorem and15 (x : Nat) (h : x < 4294967296) : bits BinOp.and IntKind.u32 (x : Int) 15 = ((x % 16 : Nat) : Int) := by
  have := and_u32 x 15 h (by decide)
  rw [show x &&& 15 = x % 16 from Nat.and_two_pow_sub_one_eq_mod x 4] at this
  exact this
theorem nib_step (x : Nat) (h : x < 4294967296) : bits BinOp.xor IntKind.u32 ((x : Int) / 16) ((Crc.steps 4 (x % 16) : Nat) : Int) = ((Crc.steps 4 x : Nat) : Int) := by
  have e : ((x : Int) / 16) = ((x / 16 : Nat) : Int) := by omega
  rw [e, xor_u32 _ _ (by omega) (Crc.steps_lt 4 (by omega)), Crc.nibble]

set_option maxHeartbeats 1000000 in
theorem sum_any (s : ByteArray) (w : World) (hs : s.size ≤ 9223372036854775807) :
    Calls Try.prog 50 #[.string s] w fun e w' => e = .returned (.int .u32 (Crc.sum (bytesN s))) ∧ Below w.heap.size w w' := by
  have HS := Lib.hid hs
  clear hs
  go_enter Try.func50, Try.ntmps50
  go_wp2_with fail
  refine (half_any _).mono ?_
  rintro e w1 ⟨rfl, hb⟩
  have B1 := Lib.hid hb
  clear hb
  unfold nib
  have HS2 : (s.size : Int) ≤ 9223372036854775807 := by have := HS.out; omega
  go_wp2_with fail
  go_loop [4, 9] (fun c i => ∃ k d : Nat, k ≤ s.size ∧ i = .int .i64 k ∧ c = .int .u32 d ∧ d = Crc.run 4294967295 ((bytesN s).take k)) (fun _ i => s.size - (intOf i).toNat)
  case atStart => exact ⟨0, _, Nat.zero_le _, rfl, rfl, rfl⟩
  case round =>
    obtain ⟨k, d, hk, rfl, rfl, hd⟩ := hrel
    have HD := Lib.hid hd
    clear hd
    by_cases hlt : k < s.size
    · have hd : d < 4294967296 := by
        rw [HD.out]
        exact Crc.run_lt _ (fun b hb => bytesN_lt s b (List.mem_of_mem_take hb)) _ (by decide)
      have hb : s[k].toNat < 256 := s[k].toNat_lt
      have hx1 : d ^^^ s[k].toNat < 4294967296 := Nat.xor_lt_two_pow (n := 32) hd (by omega)
      have e1 := xor_u32 d s[k].toNat hd (by omega)
      have e2 := and15 (d ^^^ s[k].toNat) hx1
      have e3 := nib_step (d ^^^ s[k].toNat) hx1
      have hx2 : Crc.steps 4 (d ^^^ s[k].toNat) < 4294967296 := Crc.steps_lt 4 hx1
      have e4 := and15 _ hx2
      have e5 := nib_step _ hx2
      have c1 := nib_cell w1 ((d ^^^ s[k].toNat) % 16) (by omega)
      have c2 := nib_cell w1 (Crc.steps 4 (d ^^^ s[k].toNat) % 16) (by omega)
      have hbI : (s[k].toNat : Int) < 256 := by omega
      have m1 : ((d ^^^ s[k].toNat) % 16 : Nat) < 16 := by omega
      have m2 : (Crc.steps 4 (d ^^^ s[k].toNat) % 16 : Nat) < 16 := by omega
      have E : Hid (Crc.steps 4 (Crc.steps 4 (d ^^^ s[k].toNat)) = Crc.run 4294967295 ((bytesN s).take (k + 1))) := by
        rw [bytesN_take s k hlt, Crc.run_append, ← HD.out]
        exact (Crc.steps_add 4 4 _).symm
      unfold nib at c1 c2
      clear hd hb hx1 hx2
      generalize Crc.steps 4 (Crc.steps 4 (d ^^^ s[k].toNat)) = x3 at *
      generalize Crc.steps 4 (d ^^^ s[k].toNat) = x2 at *
      generalize d ^^^ s[k].toNat = x1 at *
      generalize ht1 : Crc.steps 4 (x1 % 16) = t1 at *
      generalize ht2 : Crc.steps 4 (x2 % 16) = t2 at *
      generalize hm1 : x1 % 16 = y1 at *
      generalize hm2 : x2 % 16 = y2 at *
      clear ht1 ht2 hm1 hm2
      go_wp2_with fail
      go_round
      case rel => exact ⟨k + 1, x3, hlt, by go_num, rfl, E.out⟩
      case measure => simp [intOf]; omega
    · obtain rfl : k = s.size := by omega
      have E : Hid (bits BinOp.xor IntKind.u32 IntKind.u32.max d = ((Crc.sum (bytesN s) : Nat) : Int)) := by
        have hd : d < 4294967296 := by
          rw [HD.out]
          exact Crc.run_lt _ (fun b hb => bytesN_lt s b (List.mem_of_mem_take hb)) _ (by decide)
        have h := xor_u32 4294967295 d (by decide) hd
        have hm : IntKind.u32.max = ((4294967295 : Nat) : Int) := by decide
        rw [hm]
        refine h.trans ?_
        rw [HD.out, List.take_of_length_le (by rw [bytesN_len]; exact Nat.le_refl _), Crc.sum, Nat.xor_comm]
      go_wp2_with fail
      go_ret
      exact ⟨by rw [← E.out]; rfl, B1.out.trans (Below.alloc (Below.refl _ _) B1.out.size _)⟩

end Go.Proofs.Ytafialodjnjihaa
