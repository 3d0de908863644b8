/- Numbers with a point: the reference's contracts that the second seat needs. Condition: bits are fewer than 2^64. -/
import Derived.Test.YtafialodjnjihaaDoorReal
namespace Go.Proofs.YtafialodjnjihaaDoor
open Go Go.RowKit
set_option maxRecDepth 100000
set_option linter.unusedVariables false

theorem none_any (x : Nat) (w : World) (hx : x < 18446744073709551616) : Calls Tryd.prog 45 #[.int .u64 x] w fun e w' => e = .returned (.bool (Rl.nan x)) ∧ w = w' := by
  have e1 : ((x : Int) / 4503599627370496 % 2048) = ((x / 4503599627370496 % 2048 : Nat) : Int) := by omega
  have e2 : ((x : Int) % 4503599627370496) = ((x % 4503599627370496 : Nat) : Int) := by omega
  by_cases h1 : x / 4503599627370496 % 2048 = 2047
  · have b1 : ((x : Int) / 4503599627370496 % 2048 == 2047) = true := by rw [e1, h1]; rfl
    by_cases h2 : x % 4503599627370496 = 0
    · have b2 : ((x : Int) % 4503599627370496 != 0) = false := by rw [e2, h2]; rfl
      have HN : Hid (Rl.nan x = false) := Lib.hid (by unfold Rl.nan; apply decide_eq_false; omega)
      clear hx h1 h2 e1 e2
      go_enter Tryd.func45, Tryd.ntmps45
      go_wp2_with fail
      go_ret
      exact ⟨by rw [HN.out]; rfl, rfl⟩
    · have b2 : ((x : Int) % 4503599627370496 != 0) = true := by rw [e2]; simp; omega
      have HN : Hid (Rl.nan x = true) := Lib.hid (by unfold Rl.nan; apply decide_eq_true; omega)
      clear hx h1 h2 e1 e2
      go_enter Tryd.func45, Tryd.ntmps45
      go_wp2_with fail
      go_ret
      exact ⟨by rw [HN.out]; rfl, rfl⟩
  · have b1 : ((x : Int) / 4503599627370496 % 2048 == 2047) = false := by rw [e1]; simp; omega
    have HN : Hid (Rl.nan x = false) := Lib.hid (by unfold Rl.nan; apply decide_eq_false; omega)
    clear hx h1 e1 e2
    go_enter Tryd.func45, Tryd.ntmps45
    go_wp2_with fail
    go_ret
    exact ⟨by rw [HN.out]; rfl, rfl⟩

theorem refcanon_any (x : Nat) (w : World) (hx : x < 18446744073709551616) : Calls Tryd.prog 23 #[.int .u64 x] w fun e w' => e = .returned (.int .u64 (Rl.canon x)) ∧ w = w' := by
  have H1 := Lib.hid (fun w => none_any x w hx)
  clear hx
  cases hn : Rl.nan x
  · have HC := Lib.hid (Rl.canon_of hn)
    rw [hn] at H1
    clear hn
    go_enter Tryd.func23, Tryd.ntmps23
    go_wp2_with fail
    refine (H1.out _).mono ?_
    rintro e w' ⟨rfl, rfl⟩
    go_wp2_with fail
    go_ret
    exact ⟨by rw [HC.out]; rfl, rfl⟩
  · have HC := Lib.hid (Rl.canon_nan hn)
    rw [hn] at H1
    clear hn
    go_enter Tryd.func23, Tryd.ntmps23
    go_wp2_with fail
    refine (H1.out _).mono ?_
    rintro e w' ⟨rfl, rfl⟩
    go_wp2_with fail
    go_ret
    exact ⟨by rw [HC.out]; rfl, rfl⟩

theorem refkey_any (x : Nat) (w : World) (hx : x < 18446744073709551616) : Calls Tryd.prog 69 #[.int .u64 x] w fun e w' => e = .returned (.int .u64 (Rl.key x)) ∧ w = w' := by
  have HC := Lib.hid (fun w => refcanon_any x w hx)
  have hcl := Rl.canon_lt hx
  by_cases hc : Rl.canon x < 9223372036854775808
  · have HK : Hid (Rl.key x = Rl.canon x + 9223372036854775808) := Lib.hid (by unfold Rl.key Rl.keyOf; rw [if_pos hc])
    have h2 : ((Rl.canon x : Int) / 9223372036854775808 == 0) = true := by simp; omega
    have h3 : IntKind.u64.wrap ((Rl.canon x : Int) + 9223372036854775808) = ((Rl.canon x + 9223372036854775808 : Nat) : Int) := by rw [IntKind.wrap_u64]; omega
    have H3 := Lib.hid h3
    clear hc hcl hx h3
    generalize Rl.canon x = c at *
    go_enter Tryd.func69, Tryd.ntmps69
    go_wp2_with fail
    refine (HC.out _).mono ?_
    rintro e w' ⟨rfl, rfl⟩
    go_wp2_with fail
    go_ret
    exact ⟨by rw [HK.out, ← H3.out]; rfl, rfl⟩
  · have HK : Hid (Rl.key x = 18446744073709551615 - Rl.canon x) := Lib.hid (by unfold Rl.key Rl.keyOf; rw [if_neg hc])
    have h1 := max_xor _ hcl
    have h2 : ((Rl.canon x : Int) / 9223372036854775808 == 0) = false := by simp; omega
    clear hc hcl hx
    generalize Rl.canon x = c at *
    go_enter Tryd.func69, Tryd.ntmps69
    go_wp2_with fail
    refine (HC.out _).mono ?_
    rintro e w' ⟨rfl, rfl⟩
    go_wp2_with fail
    go_ret
    exact ⟨by rw [HK.out, ← h1]; rfl, rfl⟩

/-- 0 below, 1 from +0 up, 2 NaN -/
theorem refback_any (k : Nat) (w : World) (hk : k < 18446744073709551616) :
    Calls Tryd.prog 80 #[.int .u64 k] w fun e w' => e = .returned (.tuple #[.int .u64 (back k).1, .int .i64 (back k).2]) ∧ w = w' := by
  have HK := Lib.hid (fun w => refkey_any (tryBack k) w (tryBack_lt k hk))
  have HB : Hid (back k = if Rl.key (tryBack k) = k then (tryBack k, 0) else (0, 2)) := Lib.hid rfl
  have hm := max_xor k hk
  by_cases h : 9223372036854775808 ≤ k
  · have HT : Hid (tryBack k = k - 9223372036854775808) := Lib.hid (by unfold tryBack; rw [if_pos h])
    have b1 : ((k : Int) / 9223372036854775808 == 1) = true := by simp; omega
    have h2 : IntKind.u64.wrap ((k : Int) - 9223372036854775808) = ((tryBack k : Nat) : Int) := by rw [HT.out, IntKind.wrap_u64]; omega
    clear h hk HT
    generalize tryBack k = t at *
    by_cases h : Rl.key t = k
    · have hd : ((k : Int) != (k : Int)) = false := by simp
      rw [h] at HK
      have HR : Hid (back k = (t, 0)) := Lib.hid (by rw [HB.out, if_pos h])
      clear HB h
      go_enter Tryd.func80, Tryd.ntmps80
      go_wp2_with fail
      refine (HK.out _).mono ?_
      rintro e w' ⟨rfl, rfl⟩
      go_wp2_with fail
      go_ret2
      exact ⟨by rw [HR.out]; rfl, rfl⟩
    · have hd : ((Rl.key t : Int) != (k : Int)) = true := by simp; omega
      have HR : Hid (back k = (0, 2)) := Lib.hid (by rw [HB.out, if_neg h])
      clear HB h
      generalize Rl.key t = y at *
      go_enter Tryd.func80, Tryd.ntmps80
      go_wp2_with fail
      refine (HK.out _).mono ?_
      rintro e w' ⟨rfl, rfl⟩
      go_wp2_with fail
      go_ret2
      exact ⟨by rw [HR.out]; rfl, rfl⟩
  · have HT : Hid (tryBack k = 18446744073709551615 - k) := Lib.hid (by unfold tryBack; rw [if_neg h])
    have b1 : ((k : Int) / 9223372036854775808 == 1) = false := by simp; omega
    rw [← HT.out] at hm
    clear h hk HT
    generalize tryBack k = t at *
    by_cases h : Rl.key t = k
    · have hd : ((k : Int) != (k : Int)) = false := by simp
      rw [h] at HK
      have HR : Hid (back k = (t, 0)) := Lib.hid (by rw [HB.out, if_pos h])
      clear HB h
      go_enter Tryd.func80, Tryd.ntmps80
      go_wp2_with fail
      refine (HK.out _).mono ?_
      rintro e w' ⟨rfl, rfl⟩
      go_wp2_with fail
      go_ret2
      exact ⟨by rw [HR.out]; rfl, rfl⟩
    · have hd : ((Rl.key t : Int) != (k : Int)) = true := by simp; omega
      have HR : Hid (back k = (0, 2)) := Lib.hid (by rw [HB.out, if_neg h])
      clear HB h
      generalize Rl.key t = y at *
      go_enter Tryd.func80, Tryd.ntmps80
      go_wp2_with fail
      refine (HK.out _).mono ?_
      rintro e w' ⟨rfl, rfl⟩
      go_wp2_with fail
      go_ret2
      exact ⟨by rw [HR.out]; rfl, rfl⟩

end Go.Proofs.YtafialodjnjihaaDoor
