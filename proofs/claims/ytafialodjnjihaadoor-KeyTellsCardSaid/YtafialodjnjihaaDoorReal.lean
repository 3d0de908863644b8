/- Numbers with a point: one contract for each function of real. Condition: bits are fewer than 2^64. -/
import Derived.Test.YtafialodjnjihaaDoorRealLaw
import Derived.Test.YtafialodjnjihaaDoorBits
import Derived.Test.YtafialodjnjihaaDoorKit
import Derived.Test.YtafialodjnjihaaDoorProg
import Derived.Lib.Hide
import Derived.Deep.QuietTactic
import Derived.BigQuiet
namespace Go.Proofs.YtafialodjnjihaaDoor
open Go Go.RowKit
set_option maxRecDepth 100000
set_option linter.unusedVariables false

theorem frombits (x : Nat) (w : World) : (callFunc 60 #[.int .u64 x]).run Tryd.prog w = .ok (.value (.float .f64 x)) w := by
  rw [run_callFunc_extern (e := Extern.MathFloatBits.float64frombits) Tryd.func60 (by kernel_rfl) (by kernel_rfl) (by kernel_rfl) (by kernel_rfl)]
  rfl

theorem canon_any (x : Nat) (w : World) : Calls Tryd.prog 42 #[.int .u64 x] w fun e w' => e = .returned (.int .u64 (Rl.canon x)) ∧ w = w' := by
  have fb := fun w => frombits x w
  have ho : (FloatKind.f64.format.order x x != some .eq) = Rl.nan x := Rl.order_self x
  cases hn : Rl.nan x
  · have HC := Lib.hid (Rl.canon_of hn)
    rw [hn] at ho
    clear hn
    go_enter Tryd.func42, Tryd.ntmps42
    go_wp2
    go_ret
    exact ⟨by rw [HC.out]; rfl, rfl⟩
  · have HC := Lib.hid (Rl.canon_nan hn)
    rw [hn] at ho
    clear hn
    go_enter Tryd.func42, Tryd.ntmps42
    go_wp2
    go_ret
    exact ⟨by rw [HC.out]; rfl, rfl⟩

theorem or_top (c : Nat) (h : c < 9223372036854775808) : bits BinOp.or IntKind.u64 (c : Int) 9223372036854775808 = ((c + 9223372036854775808 : Nat) : Int) := by
  have := or_u64 c 9223372036854775808 (by omega) (by decide)
  rw [show c ||| 9223372036854775808 = c + 1 * 2 ^ 63 from or_add c 1 63 h] at this
  exact this
theorem not_u64 (x : Nat) (h : x < 18446744073709551616) : 18446744073709551615 ^^^ x = 18446744073709551615 - x := by
  have h' : x < 2 ^ 64 := h
  have e1 : (18446744073709551615 : Nat) = 2 ^ 64 - 1 := rfl
  have e2 : 18446744073709551615 - x = 2 ^ 64 - (x + 1) := by omega
  apply Nat.eq_of_testBit_eq
  intro i
  rw [Nat.testBit_xor, e2, Nat.testBit_two_pow_sub_succ h', e1, Nat.testBit_two_pow_sub_one]
  by_cases hi : i < 64
  · simp [hi]
  · have : x.testBit i = false := Nat.testBit_lt_two_pow (Nat.lt_of_lt_of_le h' (Nat.pow_le_pow_right (by decide) (by omega)))
    simp [hi, this]
theorem max_xor (c : Nat) (h : c < 18446744073709551616) : bits BinOp.xor IntKind.u64 IntKind.u64.max (c : Int) = ((18446744073709551615 - c : Nat) : Int) := by
  rw [show IntKind.u64.max = ((18446744073709551615 : Nat) : Int) by decide, xor_u64 _ _ (by decide) h, not_u64 _ h]
theorem key_any (x : Nat) (w : World) (hx : x < 18446744073709551616) : Calls Tryd.prog 50 #[.int .u64 x] w fun e w' => e = .returned (.int .u64 (Rl.key x)) ∧ w = w' := by
  have HC := Lib.hid (canon_any x)
  have hcl := Rl.canon_lt hx
  by_cases hc : Rl.canon x < 9223372036854775808
  · have HK : Hid (Rl.key x = Rl.canon x + 9223372036854775808) := Lib.hid (by unfold Rl.key Rl.keyOf; rw [if_pos hc])
    have h1 := or_top _ hc
    have h2 : ((Rl.canon x : Int) / 9223372036854775808 == 0) = true := by simp; omega
    clear hc hcl hx
    generalize Rl.canon x = c at *
    go_enter Tryd.func50, Tryd.ntmps50
    go_wp2_with fail
    refine (HC.out _).mono ?_
    rintro e w' ⟨rfl, rfl⟩
    go_wp2_with fail
    go_ret
    exact ⟨by rw [HK.out]; rfl, rfl⟩
  · have HK : Hid (Rl.key x = 18446744073709551615 - Rl.canon x) := Lib.hid (by unfold Rl.key Rl.keyOf; rw [if_neg hc])
    have h1 := max_xor _ hcl
    have h2 : ((Rl.canon x : Int) / 9223372036854775808 == 0) = false := by simp; omega
    clear hc hcl hx
    generalize Rl.canon x = c at *
    go_enter Tryd.func50, Tryd.ntmps50
    go_wp2_with fail
    refine (HC.out _).mono ?_
    rintro e w' ⟨rfl, rfl⟩
    go_wp2_with fail
    go_ret
    exact ⟨by rw [HK.out, ← h1]; rfl, rfl⟩

theorem less_any (a b : Nat) (w : World) (ha : a < 18446744073709551616) (hb : b < 18446744073709551616) :
    Calls Tryd.prog 62 #[.int .u64 a, .int .u64 b] w fun e w' => e = .returned (.bool (decide (Rl.key a < Rl.key b))) ∧ w = w' := by
  have H1 := Lib.hid (fun w => key_any a w ha)
  have H2 := Lib.hid (fun w => key_any b w hb)
  clear ha hb
  generalize Rl.key a = x at *
  generalize Rl.key b = y at *
  go_enter Tryd.func62, Tryd.ntmps62
  go_wp2_with fail
  refine (H1.out _).mono ?_
  rintro e w' ⟨rfl, rfl⟩
  go_wp2_with fail
  refine (H2.out _).mono ?_
  rintro e w' ⟨rfl, rfl⟩
  go_wp2_with fail
  go_ret
  exact ⟨by simp, rfl⟩

/-- bits of a key, tried -/
def tryBack (k : Nat) : Nat := if 9223372036854775808 ≤ k then k - 9223372036854775808 else 18446744073709551615 - k
def back (k : Nat) : Nat × Nat := if Rl.key (tryBack k) = k then (tryBack k, 0) else (0, 2)
theorem tryBack_lt (k : Nat) (h : k < 18446744073709551616) : tryBack k < 18446744073709551616 := by unfold tryBack; split <;> omega

theorem and_top (k : Nat) (h : k < 18446744073709551616) : bits BinOp.and IntKind.u64 (k : Int) 9223372036854775808 = if 9223372036854775808 ≤ k then 9223372036854775808 else 0 := by
  have h1 := and_u64 k 9223372036854775808 h (by decide)
  have e : k &&& 9223372036854775808 = if 9223372036854775808 ≤ k then 9223372036854775808 else 0 := by
    rw [nat_hi64_63]
    split <;> omega
  refine h1.trans ?_
  rw [e]; split <;> rfl
theorem andNot_top (k : Nat) (h : k < 18446744073709551616) (h2 : 9223372036854775808 ≤ k) : bits BinOp.andNot IntKind.u64 (k : Int) 9223372036854775808 = ((k - 9223372036854775808 : Nat) : Int) := by
  have e1 : (BitVec.ofInt 64 (k : Int)).toNat = k := by
    rw [BitVec.ofInt_natCast, BitVec.toNat_ofNat]; exact Nat.mod_eq_of_lt (by omega)
  have e2 : (~~~ (BitVec.ofInt 64 (9223372036854775808 : Int))) = BitVec.ofNat 64 9223372036854775807 := by decide
  show IntKind.u64.wrap ((BitVec.ofInt 64 (k : Int) &&& ~~~ (BitVec.ofInt 64 (9223372036854775808 : Int))).toNat : Int) = _
  rw [e2, BitVec.toNat_and, e1, BitVec.toNat_ofNat, show (9223372036854775807 : Nat) % 2 ^ 64 = 2 ^ 63 - 1 from rfl, Nat.and_two_pow_sub_one_eq_mod, IntKind.wrap_u64]
  omega

theorem find_any (k b : Nat) (w : World) (hk : k < 18446744073709551616) (hc : w.cell? ⟨b, 0, none⟩ = some (.int .u64 k)) :
    Calls Tryd.prog 78 #[.pointer (some ⟨b, 0, none⟩)] w fun e w' => e = .returned (.int .u64 (tryBack k)) ∧ w = w' := by
  by_cases h : 9223372036854775808 ≤ k
  · have h1 : bits BinOp.and IntKind.u64 (k : Int) 9223372036854775808 = 9223372036854775808 := by rw [and_top k hk, if_pos h]
    have h2 := andNot_top k hk h
    have HT : Hid (tryBack k = k - 9223372036854775808) := Lib.hid (by unfold tryBack; rw [if_pos h])
    clear h hk
    go_enter Tryd.func78, Tryd.ntmps78
    go_wp2_with fail
    go_ret
    exact ⟨by rw [HT.out]; rfl, rfl⟩
  · have h1 : bits BinOp.and IntKind.u64 (k : Int) 9223372036854775808 = 0 := by rw [and_top k hk, if_neg h]
    have h2 := max_xor k hk
    have HT : Hid (tryBack k = 18446744073709551615 - k) := Lib.hid (by unfold tryBack; rw [if_neg h])
    clear h hk
    go_enter Tryd.func78, Tryd.ntmps78
    go_wp2_with fail
    go_ret
    exact ⟨by rw [HT.out, ← h2]; rfl, rfl⟩

theorem back_any (k : Nat) (w : World) (hk : k < 18446744073709551616) :
    Calls Tryd.prog 58 #[.int .u64 k] w fun e w' => e = .returned (.tuple #[.int .u64 (back k).1, .int .i64 (back k).2]) ∧ Below w.heap.size w w' := by
  have HF := Lib.hid (find_any k w.heap.size (w.alloc (.cells #[.int .u64 k] 22)) hk (by go_simp))
  have HK := Lib.hid (fun w => key_any (tryBack k) w (tryBack_lt k hk))
  have HB : Hid (back k = if Rl.key (tryBack k) = k then (tryBack k, 0) else (0, 2)) := Lib.hid rfl
  clear hk
  generalize tryBack k = t at *
  by_cases h : Rl.key t = k
  · have hd : ((k : Int) == (k : Int)) = true := by simp
    rw [h] at HK
    have HR : Hid (back k = (t, 0)) := Lib.hid (by rw [HB.out, if_pos h])
    clear HB h
    go_enter Tryd.func58, Tryd.ntmps58
    go_wp2_with fail
    refine HF.out.mono ?_
    rintro e w' ⟨rfl, rfl⟩
    go_wp2_with fail
    go_quiet ((go_at_call 50; exact Calls.quiet_of_same ((HK.out _).mono fun _ _ ⟨a, b⟩ => ⟨a, b.symm⟩)))
    go_wp2_with fail
    go_ret2
    exact ⟨by rw [HR.out]; rfl, below_drewN (Below.alloc (Below.refl _ _) (Nat.le_refl _) _) _⟩
  · have hd : ((Rl.key t : Int) == (k : Int)) = false := by simp; omega
    have HR : Hid (back k = (0, 2)) := Lib.hid (by rw [HB.out, if_neg h])
    clear HB h
    generalize Rl.key t = y at *
    go_enter Tryd.func58, Tryd.ntmps58
    go_wp2_with fail
    refine HF.out.mono ?_
    rintro e w' ⟨rfl, rfl⟩
    go_wp2_with fail
    go_quiet ((go_at_call 50; exact Calls.quiet_of_same ((HK.out _).mono fun _ _ ⟨a, b⟩ => ⟨a, b.symm⟩)))
    go_wp2_with fail
    go_ret2
    exact ⟨by rw [HR.out]; rfl, below_drewN (Below.alloc (Below.refl _ _) (Nat.le_refl _) _) _⟩
end Go.Proofs.YtafialodjnjihaaDoor
