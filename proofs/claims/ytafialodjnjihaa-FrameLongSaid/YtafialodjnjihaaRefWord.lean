/- The reference's words: one contract for each function. Conditions: sizes within their kinds. -/
import Derived.Test.YtafialodjnjihaaWord
namespace Go.Proofs.Ytafialodjnjihaa
open Go Go.RowKit
set_option maxRecDepth 100000
set_option linter.unusedVariables false

theorem room_dec (v k : Nat) (h : k < 64) : decide ((v : Int) < IntKind.u64.wrap (2 ^ k)) = decide (v < 2 ^ k) := by
  have hp : (2 : Nat) ^ k < 2 ^ 64 := Nat.pow_lt_pow_right (by decide) h
  rw [show (2 : Nat) ^ 64 = 18446744073709551616 from rfl] at hp
  have e : ((2 : Int) ^ k) = ((2 ^ k : Nat) : Int) := by rw [Int.natCast_pow]; rfl
  rw [e]
  generalize 2 ^ k = z at hp
  have hw : IntKind.u64.wrap (z : Int) = (z : Int) := by rw [IntKind.wrap_u64]; omega
  rw [hw]
  apply decide_eq_decide.2
  omega
theorem room_lt (v n b : Nat) (w : World) (h1 : (n : Int) * b < 64) (hn : (n : Int) ≤ 16) (hb : (b : Int) ≤ 8) :
    Calls Try.prog 68 #[.int .u64 v, .int .i64 n, .int .u64 b] w fun e w' => e = .returned (.bool (decide (v < 2 ^ (n * b)))) ∧ w = w' := by
  have h0 : (0 : Int) ≤ (n : Int) * b := Int.mul_nonneg (by omega) (by omega)
  have hd : decide ((64 : Int) ≤ (n : Int) * b) = false := by simp; omega
  go_enter Try.func68, Try.ntmps68
  go_wp2
  go_ret
  exact ⟨by rw [← room_dec v (n * b) (by exact_mod_cast h1)]; rfl, rfl⟩
theorem room_ge (v n b : Nat) (w : World) (h1 : (n : Int) * b = 64) (hn : (n : Int) ≤ 16) (hb : (b : Int) ≤ 8) (hv : v < 18446744073709551616) :
    Calls Try.prog 68 #[.int .u64 v, .int .i64 n, .int .u64 b] w fun e w' => e = .returned (.bool (decide (v < 2 ^ (n * b)))) ∧ w = w' := by
  have hd : decide ((64 : Int) ≤ (n : Int) * b) = true := by simp; omega
  have hr : decide (v < 2 ^ (n * b)) = true := by
    have : n * b = 64 := by exact_mod_cast h1
    rw [this]; simp; omega
  have HR := Lib.hid hr
  have h2 : (0 : Int) ≤ (n : Int) * b := by omega
  have h3 : (n : Int) * b ≤ 64 := by omega
  clear h1 hr hv
  go_enter Try.func68, Try.ntmps68
  go_wp2
  go_ret
  exact ⟨by rw [HR.out]; rfl, rfl⟩
theorem room_any (v n b : Nat) (w : World) (h1 : n * b ≤ 64) (hn : n ≤ 16) (hb : b ≤ 8) (hv : v < 18446744073709551616) :
    Calls Try.prog 68 #[.int .u64 v, .int .i64 n, .int .u64 b] w fun e w' => e = .returned (.bool (decide (v < 2 ^ (n * b)))) ∧ w = w' := by
  by_cases h : n * b < 64
  · exact room_lt v n b w (by exact_mod_cast h) (by omega) (by omega)
  · exact room_ge v n b w (by have : n * b = 64 := by omega
                              exact_mod_cast this) (by omega) (by omega) hv

set_option maxHeartbeats 1000000 in
theorem refput_ok (v n : Nat) (w : World) (h1 : 1 ≤ n) (h8 : n ≤ 8) (hv : v < 18446744073709551616) (hf : v < 2 ^ (n * 8)) :
    Calls Try.prog 42 #[.int .u64 v, .int .i64 n] w fun e w' => e = .returned (.tuple #[.string ⟨(le n v).toArray⟩, .int .i64 0]) ∧ Below w.heap.size w w' := by
  obtain ⟨i0, hi, hz0, hz1, hz2⟩ := info_parts info5
  have FT := Lib.hid (room_any v n 8 w (by omega) (by omega) (by omega) hv)
  have HF := Lib.hid (decide_eq_true hf)
  have HV := Lib.hid hv
  have t1 : ¬ (n : Int) < 1 := by omega
  have t2 : ¬ (8 : Int) < (n : Int) := by omega
  clear hf hv h1 h8
  go_enter Try.func42, Try.ntmps42
  go_wp2_with fail
  refine FT.out.mono ?_
  rintro e w' ⟨rfl, rfl⟩
  rw [HF.out]
  clear FT HF
  go_wp2_with fail
  go_loopw [0, 6, 7] (fun x r i wr => ∃ k y : Nat, k ≤ n ∧ i = .int .i64 k ∧ x = .int .u64 y ∧ y = v / 2 ^ (8 * k) ∧ wr.ownsRow w.heap.size 5 1 r (le k v).length ((le k v).map byteV) ∧ Below w.heap.size w wr) (fun _ _ i _ => n - (intOf i).toNat)
  case atStart => exact ⟨0, v, Nat.zero_le _, rfl, rfl, by simp, by simpa [le] using World.ownsRow_nil _ _ _ _, Below.refl _ _⟩
  case round =>
    obtain ⟨k, y, hk, rfl, rfl, hy, hown, hbel⟩ := hrel
    have O := Lib.hid hown
    have B := Lib.hid hbel
    have HY := Lib.hid hy
    have hsz := hbel.size
    have LN := Lib.hid (le_len k v)
    clear hown hbel hy
    by_cases hlt : k < n
    · have BV : Hid ((le (k + 1) v).map byteV = (le k v).map byteV ++ [.int .u8 ((y : Int) % 256)]) := by
        rw [le_succ, List.map_append, ← HY.out]
        exact Lib.hid (by simp [byteV])
      have NY : Hid (y / 256 = v / 2 ^ (8 * (k + 1))) := by
        rw [HY.out, Nat.mul_succ, Nat.pow_add, Nat.div_div_eq_div_mul]; exact Lib.hid rfl
      have ey : Hid (IntKind.u64.wrap ((y : Int) / 256) = ((y / 256 : Nat) : Int)) := Lib.hid (by
        have hyv : y ≤ v := by rw [HY.out]; exact Nat.div_le_self _ _
        have := HV.out
        rw [IntKind.wrap_u64]; omega)
      have HKN := Lib.hid t2
      go_wp2_with (first | (at_builtin; refine append_one wr rfl (.tmp 23) (.tmp 27) 24 rfl w.heap.size 5 i0 (.int .u8 0) 1 1 Try.underlying24 hi hz0 hz1 hz2 rfl (by decide) _ _ _ rfl O.out [.int .u8 ((y : Int) % 256)] rfl rfl ?c2 ?c3 ?c4 hsz ?_ rfl))
      case c2 => first | (intro u hu; simp at hu; subst hu; rfl) | rfl
      case c3 => rw [LN.out]; unfold maxLen; omega
      case c4 => rw [LN.out]; omega
      intro v1 w1 hown1 hbel1 _
      have O1 : Hid (w1.ownsRow w.heap.size 5 1 v1 (le (k + 1) v).length ((le (k + 1) v).map byteV)) := Lib.hid (by
        rw [BV.out, le_len, ← LN.out]; simpa [le_len] using hown1)
      have B1 := Lib.hid (B.out.trans hbel1)
      clear hown1 hbel1
      go_wp2_with fail
      go_roundw
      case rel => exact ⟨k + 1, y / 256, hlt, by go_num, by rw [ey.out], NY.out, O1.out, B1.out⟩
      case measure => simp [intOf]; omega
    · obtain rfl : n = k := by omega
      have hcv := str_of_row (le n v) O.out
      clear hsz
      go_wp2_with fail
      go_ret2
      exact ⟨rfl, B.out⟩

theorem refput_long (v n : Nat) (w : World) (h1 : 1 ≤ n) (h8 : n ≤ 8) (hv : v < 18446744073709551616) (hf : ¬ v < 2 ^ (n * 8)) :
    Calls Try.prog 42 #[.int .u64 v, .int .i64 n] w fun e w' => e = .returned (.tuple #[.string ⟨#[]⟩, .int .i64 5]) ∧ w = w' := by
  have FT := Lib.hid (room_any v n 8 w (by omega) (by omega) (by omega) hv)
  have HF := Lib.hid (decide_eq_false hf)
  have t1 : ¬ (n : Int) < 1 := by omega
  have t2 : ¬ (8 : Int) < (n : Int) := by omega
  clear hf hv h1 h8
  go_enter Try.func42, Try.ntmps42
  go_wp2_with fail
  refine FT.out.mono ?_
  rintro e w' ⟨rfl, rfl⟩
  rw [HF.out]
  clear FT HF
  go_wp2_with fail
  go_ret2
  exact ⟨rfl, rfl⟩

theorem refput_arg (v n : Int) (w : World) (h : n < 1 ∨ 8 < n) :
    Calls Try.prog 42 #[.int .u64 v, .int .i64 n] w fun e w' => e = .returned (.tuple #[.string ⟨#[]⟩, .int .i64 2]) ∧ w = w' := by
  rcases h with h | h
  · go_enter Try.func42, Try.ntmps42
    go_wp2_with fail
    go_ret2
    exact ⟨rfl, rfl⟩
  · have t1 : ¬ n < 1 := by omega
    go_enter Try.func42, Try.ntmps42
    go_wp2_with fail
    go_ret2
    exact ⟨rfl, rfl⟩

set_option maxHeartbeats 1000000 in
theorem refget_ok (s : ByteArray) (w : World) (h1 : 1 ≤ s.size) (h8 : s.size ≤ 8) :
    Calls Try.prog 44 #[.string s] w fun e w' => e = .returned (.tuple #[.int .u64 (ofLe s.data.toList), .int .i64 0]) ∧ w = w' := by
  have t1 : ¬ (s.size : Int) < 1 := by omega
  have t2 : ¬ (8 : Int) < (s.size : Int) := by omega
  clear h1 h8
  go_enter Try.func44, Try.ntmps44
  go_wp2_with fail
  go_loop [4, 5] (fun v i => ∃ j : Nat, j ≤ s.size ∧ i = .int .i64 ((j : Int) - 1) ∧ v = .int .u64 (ofLe (s.data.toList.drop j))) (fun _ i => (intOf i + 1).toNat)
  case atStart => exact ⟨s.size, Nat.le_refl _, rfl, by rw [List.drop_of_length_le (by simp)]; rfl⟩
  case round =>
    obtain ⟨j, hj, rfl, rfl⟩ := hrel
    cases j with
    | succ q =>
      rw [show ((q + 1 : Nat) : Int) - 1 = q by omega]
      have hq : q < s.size := by omega
      have e : Hid (IntKind.u64.wrap (IntKind.u64.wrap (256 * (ofLe (s.data.toList.drop (q + 1)) : Int)) + IntKind.u64.wrap (s[q].toNat : Int)) = ((ofLe (s.data.toList.drop q) : Nat) : Int)) := by
        have hl := ofLe_lt (s.data.toList.drop q)
        have hb : (2 : Nat) ^ (8 * (s.data.toList.drop q).length) ≤ 2 ^ 64 := Nat.pow_le_pow_right (by decide) (by simp; omega)
        rw [show (2 : Nat) ^ 64 = 18446744073709551616 from rfl] at hb
        rw [drop_cons s q hq, ofLe] at hl ⊢
        refine Lib.hid ?_
        rw [IntKind.wrap_u64, IntKind.wrap_u64, IntKind.wrap_u64]
        have hb2 : s[q].toNat + 256 * ofLe (s.data.toList.drop (q + 1)) < 18446744073709551616 := Nat.lt_of_lt_of_le hl (by rw [drop_cons s q hq] at hb; exact hb)
        omega
      go_wp2_with fail
      go_round
      case rel => exact ⟨q, by omega, rfl, by rw [e.out]⟩
      case measure => simp [intOf]
    | zero =>
      go_wp2_with fail
      go_ret2
      exact ⟨rfl, rfl⟩

theorem refget_arg (s : ByteArray) (w : World) (h : s.size < 1 ∨ 8 < s.size) :
    Calls Try.prog 44 #[.string s] w fun e w' => e = .returned (.tuple #[.int .u64 0, .int .i64 2]) ∧ w = w' := by
  rcases h with h | h
  · have t1 : (s.size : Int) < 1 := by omega
    clear h
    go_enter Try.func44, Try.ntmps44
    go_wp2_with fail
    go_ret2
    exact ⟨rfl, rfl⟩
  · have t1 : ¬ (s.size : Int) < 1 := by omega
    have t2 : (8 : Int) < (s.size : Int) := by omega
    clear h
    go_enter Try.func44, Try.ntmps44
    go_wp2_with fail
    go_ret2
    exact ⟨rfl, rfl⟩

/-- the lowest i digits, the highest first -/
def lowHex : Nat → Nat → List UInt8
  | 0, _ => []
  | i + 1, v => hexd (v / 2 ^ (4 * i) % 16) :: lowHex i v
theorem lowHex_len (i v : Nat) : (lowHex i v).length = i := by
  induction i with
  | zero => rfl
  | succ i ih => simp [lowHex, ih]
theorem hexP_low (v : Nat) : ∀ m n, m ≤ n → lowHex n v = hexP n v m ++ lowHex (n - m) v := by
  intro m
  induction m with
  | zero => intro n _; simp [hexP]
  | succ m ih =>
    intro n hm
    rw [ih n (by omega), hexP_succ, List.append_assoc]
    congr 1
    obtain ⟨q, hq⟩ : ∃ q, n - m = q + 1 := ⟨n - m - 1, by omega⟩
    rw [hq, lowHex, show n - 1 - m = q by omega, show n - (m + 1) = q by omega]
    rfl
theorem lowHex_hex (n v : Nat) : lowHex n v = hex n v := by
  have := hexP_low v n n (Nat.le_refl _)
  rw [Nat.sub_self] at this
  simpa [lowHex, hex] using this

def hexDigits : ByteArray := ⟨#[48, 49, 50, 51, 52, 53, 54, 55, 56, 57, 97, 98, 99, 100, 101, 102]⟩
theorem digit_cut (d : Nat) (h : d < 16) : hexDigits.extract d (d + 1) = ⟨#[hexd d]⟩ := by
  have hall : ∀ d : Fin 16, hexDigits.extract d.1 (d.1 + 1) = ⟨#[hexd d.1]⟩ := by decide
  exact hall ⟨d, h⟩

set_option maxHeartbeats 1000000 in
theorem refhex_ok (v n : Nat) (w : World) (h1 : 1 ≤ n) (h16 : n ≤ 16) (hv : v < 18446744073709551616) (hf : v < 2 ^ (n * 4)) :
    Calls Try.prog 46 #[.int .u64 v, .int .i64 n] w fun e w' => e = .returned (.tuple #[.string ⟨(hex n v).toArray⟩, .int .i64 0]) ∧ w = w' := by
  have FT := Lib.hid (room_any v n 4 w (by omega) (by omega) (by omega) hv)
  have HF := Lib.hid (decide_eq_true hf)
  have HV := Lib.hid hv
  have t1 : ¬ (n : Int) < 1 := by omega
  have t2 : ¬ (16 : Int) < (n : Int) := by omega
  clear hf hv h1 h16
  go_enter Try.func46, Try.ntmps46
  go_wp2_with fail
  refine FT.out.mono ?_
  rintro e w' ⟨rfl, rfl⟩
  rw [HF.out]
  clear FT HF
  go_wp2_with fail
  go_loop [0, 6, 7] (fun x r i => ∃ k y : Nat, k ≤ n ∧ i = .int .i64 k ∧ x = .int .u64 y ∧ y = v / 2 ^ (4 * k) ∧ r = .string ⟨(lowHex k v).toArray⟩) (fun _ _ i => n - (intOf i).toNat)
  case atStart => exact ⟨0, v, Nat.zero_le _, rfl, rfl, by simp, rfl⟩
  case round =>
    obtain ⟨k, y, hk, rfl, rfl, hy, rfl⟩ := hrel
    have HY := Lib.hid hy
    clear hy
    by_cases hlt : k < n
    · have NY : Hid (y / 16 = v / 2 ^ (4 * (k + 1))) := by
        rw [HY.out, Nat.mul_succ, Nat.pow_add, Nat.div_div_eq_div_mul]; exact Lib.hid rfl
      have hyv : y < 18446744073709551616 := Nat.lt_of_le_of_lt (by rw [HY.out]; exact Nat.div_le_self _ _) HV.out
      have ey : Hid (IntKind.u64.wrap ((y : Int) / 16) = ((y / 16 : Nat) : Int)) := Lib.hid (by
        rw [IntKind.wrap_u64]; omega)
      obtain ⟨d, hd⟩ : ∃ d, d = y % 16 := ⟨_, rfl⟩
      have ed : ((y : Int) % 16) = (d : Int) := by omega
      have hd16 : (d : Int) < 16 := by omega
      have cut := digit_cut d (by omega)
      have HD : Hid (lowHex (k + 1) v = hexd d :: lowHex k v) := Lib.hid (by rw [lowHex, ← HY.out, ← hd])
      unfold hexDigits at cut
      have hlen : ¬ 9223372036854775807 < 1 + (lowHex k v).length := by rw [lowHex_len]; omega
      clear hd hyv
      go_wp2_with fail
      go_round
      case rel =>
        refine ⟨k + 1, y / 16, hlt, by go_num, by rw [ey.out], NY.out, ?_⟩
        rw [HD.out]
        congr 1
      case measure => simp [intOf]; omega
    · obtain rfl : n = k := by omega
      go_wp2_with fail
      go_ret2
      exact ⟨by rw [← lowHex_hex]; rfl, rfl⟩

theorem refhex_long (v n : Nat) (w : World) (h1 : 1 ≤ n) (h16 : n ≤ 16) (hv : v < 18446744073709551616) (hf : ¬ v < 2 ^ (n * 4)) :
    Calls Try.prog 46 #[.int .u64 v, .int .i64 n] w fun e w' => e = .returned (.tuple #[.string ⟨#[]⟩, .int .i64 5]) ∧ w = w' := by
  have FT := Lib.hid (room_any v n 4 w (by omega) (by omega) (by omega) hv)
  have HF := Lib.hid (decide_eq_false hf)
  have t1 : ¬ (n : Int) < 1 := by omega
  have t2 : ¬ (16 : Int) < (n : Int) := by omega
  clear hf hv h1 h16
  go_enter Try.func46, Try.ntmps46
  go_wp2_with fail
  refine FT.out.mono ?_
  rintro e w' ⟨rfl, rfl⟩
  rw [HF.out]
  clear FT HF
  go_wp2_with fail
  go_ret2
  exact ⟨rfl, rfl⟩

theorem refhex_arg (v n : Int) (w : World) (h : n < 1 ∨ 16 < n) :
    Calls Try.prog 46 #[.int .u64 v, .int .i64 n] w fun e w' => e = .returned (.tuple #[.string ⟨#[]⟩, .int .i64 2]) ∧ w = w' := by
  rcases h with h | h
  · go_enter Try.func46, Try.ntmps46
    go_wp2_with fail
    go_ret2
    exact ⟨rfl, rfl⟩
  · have t1 : ¬ n < 1 := by omega
    go_enter Try.func46, Try.ntmps46
    go_wp2_with fail
    go_ret2
    exact ⟨rfl, rfl⟩

/-- what digit answers -/
def digR (c : UInt8) : Nat × Bool := match dig c with | some d => (d, true) | none => (0, false)

theorem digit_any (c : UInt8) (w : World) :
    Calls Try.prog 69 #[.int .u8 c.toNat] w fun e w' => e = .returned (.tuple #[.int .u64 (digR c).1, .bool (digR c).2]) ∧ w = w' := by
  have hc256 : (c.toNat : Int) < 256 := by have := c.toNat_lt; omega
  by_cases g1 : 48 ≤ c.toNat ∧ c.toNat ≤ 57
  · have hd : digR c = (c.toNat - 48, true) := by unfold digR dig; rw [if_pos g1]
    have HE : Hid (((c.toNat : Int) - 48) = ((c.toNat - 48 : Nat) : Int)) := Lib.hid (by omega)
    have HD := Lib.hid hd
    have b1 : decide ((48 : Int) ≤ (c.toNat : Int)) = true := by simp; omega
    have b2 : decide ((c.toNat : Int) ≤ 57) = true := by simp; omega
    have g2 : (48 : Int) ≤ (c.toNat : Int) := by omega
    clear hd g1
    go_enter Try.func69, Try.ntmps69
    go_wp2_with fail
    go_ret2
    exact ⟨by rw [HD.out, ← HE.out]; rfl, rfl⟩
  · by_cases g4 : 97 ≤ c.toNat ∧ c.toNat ≤ 102
    · have hd : digR c = (c.toNat - 87, true) := by unfold digR dig; rw [if_neg (by omega), if_pos g4]
      have HE : Hid (((c.toNat : Int) - 97 + 10) = ((c.toNat - 87 : Nat) : Int)) := Lib.hid (by omega)
      have HD := Lib.hid hd
      have b1 : decide ((48 : Int) ≤ (c.toNat : Int)) = true := by simp; omega
      have b2 : decide ((c.toNat : Int) ≤ 57) = false := by simp; omega
      have b3 : decide ((97 : Int) ≤ (c.toNat : Int)) = true := by simp; omega
      have b4 : decide ((c.toNat : Int) ≤ 102) = true := by simp; omega
      have g2 : (97 : Int) ≤ (c.toNat : Int) := by omega
      have g3 : (c.toNat : Int) ≤ 102 := by omega
      clear hd g1 g4
      go_enter Try.func69, Try.ntmps69
      go_wp2_with fail
      go_ret2
      exact ⟨by rw [HD.out, ← HE.out]; rfl, rfl⟩
    · have hd : digR c = (0, false) := by unfold digR dig; rw [if_neg (by omega), if_neg (by omega)]
      have HD := Lib.hid hd
      clear hd
      by_cases g5 : 48 ≤ c.toNat
      · have b1 : decide ((48 : Int) ≤ (c.toNat : Int)) = true := by simp; omega
        have b2 : decide ((c.toNat : Int) ≤ 57) = false := by simp; omega
        by_cases g6 : 97 ≤ c.toNat
        · have b3 : decide ((97 : Int) ≤ (c.toNat : Int)) = true := by simp; omega
          have b4 : decide ((c.toNat : Int) ≤ 102) = false := by simp; omega
          clear g1 g4 g5 g6
          go_enter Try.func69, Try.ntmps69
          go_wp2_with fail
          go_ret2
          exact ⟨by rw [HD.out]; rfl, rfl⟩
        · have b3 : decide ((97 : Int) ≤ (c.toNat : Int)) = false := by simp; omega
          clear g1 g4 g5 g6
          go_enter Try.func69, Try.ntmps69
          go_wp2_with fail
          go_ret2
          exact ⟨by rw [HD.out]; rfl, rfl⟩
      · have b1 : decide ((48 : Int) ≤ (c.toNat : Int)) = false := by simp; omega
        have b3 : decide ((97 : Int) ≤ (c.toNat : Int)) = false := by simp; omega
        clear g1 g4 g5
        go_enter Try.func69, Try.ntmps69
        go_wp2_with fail
        go_ret2
        exact ⟨by rw [HD.out]; rfl, rfl⟩

set_option maxHeartbeats 1000000 in
theorem refunhex_ok (s : ByteArray) (w : World) (h1 : 1 ≤ s.size) (h16 : s.size ≤ 16) :
    Calls Try.prog 48 #[.string s] w fun e w' => e = .returned (.tuple #[.int .u64 (unhR s.data.toList).1, .int .i64 (unhR s.data.toList).2]) ∧ w = w' := by
  have t1 : ¬ (s.size : Int) < 1 := by omega
  have t2 : ¬ (16 : Int) < (s.size : Int) := by omega
  clear h1 h16
  go_enter Try.func48, Try.ntmps48
  go_wp2_with fail
  go_loop [4, 5] (fun v i => ∃ k a : Nat, k ≤ s.size ∧ i = .int .i64 k ∧ v = .int .u64 a ∧ a < 2 ^ (4 * k) ∧ unh a (s.data.toList.drop k) = unh 0 s.data.toList) (fun _ i => s.size - (intOf i).toNat)
  case atStart => exact ⟨0, 0, Nat.zero_le _, rfl, rfl, by simp, rfl⟩
  case round =>
    obtain ⟨k, a, hk, rfl, rfl, ha, hu⟩ := hrel
    have HA := Lib.hid ha
    have HU := Lib.hid hu
    clear ha hu
    by_cases hlt : k < s.size
    · have DC : Hid (s.data.toList.drop k = s[k] :: s.data.toList.drop (k + 1)) := drop_cons s k hlt
      have k16 : (k : Int) < 16 := by omega
      rcases hd : dig s[k] with _ | d
      · have hr : Hid (digR s[k] = (0, false)) := by unfold digR; rw [hd]; exact Lib.hid rfl
        have NX : Hid (unhR s.data.toList = (0, 2)) := by
          have := HU.out
          rw [DC.out, unh, hd] at this
          exact unhR_none this.symm
        clear hd
        go_wp2_with fail
        refine (digit_any s[k] w).mono ?_
        rw [hr.out]
        rintro e w' ⟨rfl, rfl⟩
        go_wp2_with fail
        go_ret2
        exact ⟨by rw [NX.out]; rfl, rfl⟩
      · have hr : Hid (digR s[k] = (d, true)) := by unfold digR; rw [hd]; exact Lib.hid rfl
        have ST := Lib.hid (unhex_step a k _ d (by omega) HA.out hd)
        have hd16 : (d : Int) < 16 := by have := dig_lt hd; omega
        have NX : Hid (unh (16 * a + d) (s.data.toList.drop (k + 1)) = unh 0 s.data.toList) := by
          have := HU.out
          rw [DC.out, unh, hd] at this
          exact this
        have ew : Hid (IntKind.u64.wrap (IntKind.u64.wrap (16 * (a : Int)) + (d : Int)) = ((16 * a + d : Nat) : Int)) := Lib.hid (by
          have h := ST.out.2
          have h64 : (2 : Nat) ^ (4 * (k + 1)) ≤ 2 ^ 64 := Nat.pow_le_pow_right (by decide) (by omega)
          rw [show (2 : Nat) ^ 64 = 18446744073709551616 from rfl] at h64
          rw [IntKind.wrap_u64, IntKind.wrap_u64]; omega)
        clear hd
        go_wp2_with fail
        refine (digit_any s[k] w).mono ?_
        rw [hr.out]
        rintro e w' ⟨rfl, rfl⟩
        go_wp2_with fail
        go_round
        case rel => exact ⟨k + 1, 16 * a + d, hlt, by go_num, by rw [ew.out], ST.out.2, NX.out⟩
        case measure => simp [intOf]; omega
    · have hd : s.data.toList.drop k = [] := List.drop_of_length_le (by simp; omega)
      have NX : Hid (unhR s.data.toList = (a, 0)) := by
        have := HU.out
        rw [hd, unh] at this
        exact unhR_some this.symm
      clear hd
      go_wp2_with fail
      go_ret2
      exact ⟨by rw [NX.out]; rfl, rfl⟩

theorem refunhex_arg (s : ByteArray) (w : World) (h : s.size < 1 ∨ 16 < s.size) :
    Calls Try.prog 48 #[.string s] w fun e w' => e = .returned (.tuple #[.int .u64 0, .int .i64 2]) ∧ w = w' := by
  rcases h with h | h
  · have t1 : (s.size : Int) < 1 := by omega
    clear h
    go_enter Try.func48, Try.ntmps48
    go_wp2_with fail
    go_ret2
    exact ⟨rfl, rfl⟩
  · have t1 : ¬ (s.size : Int) < 1 := by omega
    have t2 : (16 : Int) < (s.size : Int) := by omega
    clear h
    go_enter Try.func48, Try.ntmps48
    go_wp2_with fail
    go_ret2
    exact ⟨rfl, rfl⟩
end Go.Proofs.Ytafialodjnjihaa
