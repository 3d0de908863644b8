/- Numbers with a point by their bits: how they are compared, and their keys. Plain numbers, no program. No condition but that bits are fewer than 2^64. -/
import Ieee.Arith
namespace Go.Proofs.YtafialodjnjihaaDoor.Rl
open Ieee

def nan (x : Nat) : Bool := decide (9218868437227405312 < x % 9223372036854775808)
def top : Nat := 9223372036854775808
def canon (x : Nat) : Nat := if nan x then 9221120237041090561 else x
def keyOf (c : Nat) : Nat := if c < 9223372036854775808 then c + 9223372036854775808 else 18446744073709551615 - c
def key (x : Nat) : Nat := keyOf (canon x)

/-- the size of a rung, in the format's least units -/
def V (r : Nat) : Nat := if r < 4503599627370496 then r else (4503599627370496 + r % 4503599627370496) * 2 ^ (r / 4503599627370496 - 1)
def S (x : Nat) : Int := if x / 9223372036854775808 % 2 = 1 then -(V (x % 9223372036854775808) : Int) else (V (x % 9223372036854775808) : Int)

theorem V_succ (r : Nat) : V r < V (r + 1) := by
  unfold V
  by_cases h : r + 1 < 4503599627370496
  · rw [if_pos (by omega), if_pos h]; omega
  · rw [if_neg h]
    by_cases h1 : r < 4503599627370496
    · have : r = 4503599627370495 := by omega
      subst this; decide
    · rw [if_neg h1]
      by_cases h2 : (r + 1) % 4503599627370496 = 0
      · have e1 : (r + 1) / 4503599627370496 - 1 = (r / 4503599627370496 - 1) + 1 := by omega
        have e2 : r % 4503599627370496 = 4503599627370495 := by omega
        rw [h2, e1, e2, Nat.pow_succ]
        have : 0 < 2 ^ (r / 4503599627370496 - 1) := Nat.two_pow_pos _
        omega
      · have e1 : (r + 1) / 4503599627370496 - 1 = (r / 4503599627370496 - 1) := by omega
        have e2 : (r + 1) % 4503599627370496 = r % 4503599627370496 + 1 := by omega
        rw [e1, e2]
        exact Nat.mul_lt_mul_of_pos_right (by omega) (Nat.two_pow_pos _)

theorem V_lt {a b : Nat} (h : a < b) : V a < V b := by
  induction b with
  | zero => omega
  | succ b ih =>
    rcases Nat.lt_or_ge a b with h1 | h1
    · exact Nat.lt_trans (ih h1) (V_succ b)
    · have : a = b := by omega
      subst this; exact V_succ a

theorem V_lt_iff {a b : Nat} : V a < V b ↔ a < b := by
  constructor
  · intro h
    rcases Nat.lt_or_ge a b with h1 | h1
    · exact h1
    · rcases Nat.eq_or_lt_of_le h1 with h2 | h2
      · subst h2; omega
      · have := V_lt h2; omega
  · exact V_lt
theorem V_zero : V 0 = 0 := by decide
theorem V_inj {a b : Nat} (h : V a = V b) : a = b := by
  rcases Nat.lt_trichotomy a b with h1 | h1 | h1
  · have := V_lt h1; omega
  · exact h1
  · have := V_lt h1; omega

theorem cmp_lt {a b : Int} (h : a < b) : compare a b = .lt := by
  simp [compare, compareOfLessAndEq, h]
theorem cmp_gt {a b : Int} (h : b < a) : compare a b = .gt := by
  simp [compare, compareOfLessAndEq, show ¬ a < b by omega, show ¬ a = b by omega]
theorem cmp_eq {a : Int} : compare a a = .eq := by
  simp [compare, compareOfLessAndEq]
theorem cmp_eq' {a b : Int} (h : a = b) : compare a b = .eq := by subst h; exact cmp_eq

/-- comparing does not hang on a common factor -/
theorem cmp_scale (a b : Int) (k : Nat) : compare (a * 2 ^ k) (b * 2 ^ k) = compare a b := by
  have hp : (0 : Int) < 2 ^ k := Int.pow_pos (by omega)
  rcases Int.lt_trichotomy a b with h | h | h
  · rw [cmp_lt h, cmp_lt (Int.mul_lt_mul_of_pos_right h hp)]
  · subst h; rw [cmp_eq, cmp_eq]
  · rw [cmp_gt h, cmp_gt (Int.mul_lt_mul_of_pos_right h hp)]

/-- a finite word's number: sign, magnitude, how far above the least place -/
theorem read_fin (x : Nat) (h : x % 9223372036854775808 < 9218868437227405312) :
    ∃ m k : Nat, double.read x = .number (x / 9223372036854775808 % 2 == 1) m (double.leastPlace + k) ∧ V (x % 9223372036854775808) = m * 2 ^ k := by
  have hw : double.signWeight = 9223372036854775808 := by decide
  have hb : double.binade = 4503599627370496 := by decide
  have hi : double.infRung = 9218868437227405312 := by decide
  unfold Format.read
  simp only [hw, hb, hi]
  by_cases h1 : x % 9223372036854775808 < 4503599627370496
  · rw [if_pos h1]
    exact ⟨x % 9223372036854775808, 0, by simp, by unfold V; rw [if_pos h1]; simp⟩
  · rw [if_neg h1, if_pos h]
    exact ⟨_, _, rfl, by unfold V; rw [if_neg h1]⟩

theorem read_inf (x : Nat) (h : x % 9223372036854775808 = 9218868437227405312) : double.read x = .infinity (x / 9223372036854775808 % 2 == 1) := by
  have hw : double.signWeight = 9223372036854775808 := by decide
  have hb : double.binade = 4503599627370496 := by decide
  have hi : double.infRung = 9218868437227405312 := by decide
  unfold Format.read
  simp only [hw, hb, hi, h]
  rfl

theorem read_nan (x : Nat) (h : nan x = true) : ∃ s t, double.read x = .nan s t := by
  unfold nan at h
  have h := of_decide_eq_true h
  have hw : double.signWeight = 9223372036854775808 := by decide
  have hb : double.binade = 4503599627370496 := by decide
  have hi : double.infRung = 9218868437227405312 := by decide
  unfold Format.read
  simp only [hw, hb, hi]
  rw [if_neg (by omega), if_neg (by omega), if_neg (by omega)]
  exact ⟨_, _, rfl⟩

theorem signed_eq (s : Bool) (m u : Nat) : signed s m u = (if s then -(m : Int) else (m : Int)) * 2 ^ u := by
  unfold signed
  rw [Nat.shiftLeft_eq]
  cases s <;> simp [Int.neg_mul]

theorem order_nan_left {x y : Nat} (h : nan x = true) : double.order x y = none := by
  obtain ⟨s, t, e⟩ := read_nan x h
  unfold Format.order
  rw [e]; rfl
theorem order_nan_right {x y : Nat} (h : nan y = true) : double.order x y = none := by
  obtain ⟨s, t, e⟩ := read_nan y h
  unfold Format.order
  rw [e]; cases double.read x <;> rfl

theorem not_nan {x : Nat} (h : nan x = false) : x % 9223372036854775808 < 9218868437227405312 ∨ x % 9223372036854775808 = 9218868437227405312 := by
  unfold nan at h
  have := of_decide_eq_false h
  omega

theorem order_eq {x y : Nat} (hx : nan x = false) (hy : nan y = false) : double.order x y = some (compare (S x) (S y)) := by
  unfold Format.order
  rcases not_nan hx with h1 | h1 <;> rcases not_nan hy with h2 | h2
  · obtain ⟨m, k, e1, v1⟩ := read_fin x h1
    obtain ⟨n, j, e2, v2⟩ := read_fin y h2
    rw [e1, e2]
    unfold Datum.order
    simp only []
    congr 1
    have d : ∃ d : Nat, min (double.leastPlace + (k : Int)) (double.leastPlace + (j : Int)) = double.leastPlace + (d : Int) ∧ d ≤ k ∧ d ≤ j := by
      rcases Nat.le_total k j with h | h
      · exact ⟨k, by omega, Nat.le_refl _, h⟩
      · exact ⟨j, by omega, h, Nat.le_refl _⟩
    obtain ⟨d, hd, hk, hj⟩ := d
    rw [hd, signed_eq, signed_eq, show (double.leastPlace + (k : Int) - (double.leastPlace + (d : Int))).toNat = k - d by omega,
      show (double.leastPlace + (j : Int) - (double.leastPlace + (d : Int))).toNat = j - d by omega]
    rw [← cmp_scale _ _ d, Int.mul_assoc, Int.mul_assoc, ← Int.pow_add, ← Int.pow_add, Nat.sub_add_cancel hk, Nat.sub_add_cancel hj]
    unfold S
    rw [v1, v2]
    have es : ∀ z : Nat, (z == 1) = decide (z = 1) := fun z => rfl
    congr 1 <;> (split <;> simp_all [Int.neg_mul])
  · obtain ⟨m, k, e1, v1⟩ := read_fin x h1
    rw [e1, read_inf y h2]
    unfold Datum.order
    simp only []
    congr 1
    have hv : V (x % 9223372036854775808) < V (y % 9223372036854775808) := V_lt (by omega)
    unfold S
    by_cases s2 : y / 9223372036854775808 % 2 = 1
    · rw [if_pos s2]
      simp only [s2, beq_self_eq_true, if_true]
      refine (cmp_gt ?_).symm
      split <;> omega
    · rw [if_neg s2]
      have : (y / 9223372036854775808 % 2 == 1) = false := by simpa using s2
      rw [this]
      refine (cmp_lt ?_).symm
      split <;> omega
  · obtain ⟨m, k, e1, v1⟩ := read_fin y h2
    rw [e1, read_inf x h1]
    unfold Datum.order
    simp only []
    congr 1
    have hv : V (y % 9223372036854775808) < V (x % 9223372036854775808) := V_lt (by omega)
    unfold S
    by_cases s2 : x / 9223372036854775808 % 2 = 1
    · rw [if_pos s2]
      simp only [s2, beq_self_eq_true, if_true]
      refine (cmp_lt ?_).symm
      split <;> omega
    · rw [if_neg s2]
      have : (x / 9223372036854775808 % 2 == 1) = false := by simpa using s2
      rw [this]
      refine (cmp_gt ?_).symm
      split <;> omega
  · rw [read_inf x h1, read_inf y h2]
    unfold Datum.order
    simp only []
    congr 1
    unfold S
    rw [h1, h2]
    have hv : V 0 < V 9218868437227405312 := V_lt (by omega)
    rw [V_zero] at hv
    by_cases s1 : x / 9223372036854775808 % 2 = 1 <;> by_cases s2 : y / 9223372036854775808 % 2 = 1
    · rw [if_pos s1, if_pos s2, s1, s2, cmp_eq]; rfl
    · have : y / 9223372036854775808 % 2 = 0 := by omega
      rw [if_pos s1, if_neg s2, s1, this, cmp_lt (by omega)]; rfl
    · have : x / 9223372036854775808 % 2 = 0 := by omega
      rw [if_neg s1, if_pos s2, s2, this, cmp_gt (by omega)]; rfl
    · have e1 : x / 9223372036854775808 % 2 = 0 := by omega
      have e2 : y / 9223372036854775808 % 2 = 0 := by omega
      rw [if_neg s1, if_neg s2, e1, e2, cmp_eq]; rfl

theorem order_self (x : Nat) : (double.order x x != some .eq) = nan x := by
  cases h : nan x
  · rw [order_eq h h, cmp_eq]; rfl
  · rw [order_nan_left h]; rfl

theorem canon_of {x : Nat} (h : nan x = false) : canon x = x := by unfold canon; rw [h]; rfl
theorem canon_nan {x : Nat} (h : nan x = true) : canon x = 9221120237041090561 := by unfold canon; rw [h]; rfl
theorem canon_lt {x : Nat} (h : x < 18446744073709551616) : canon x < 18446744073709551616 := by
  unfold canon; split <;> omega
theorem canon_nan_iff (x : Nat) : nan (canon x) = nan x := by
  cases h : nan x
  · rw [canon_of h, h]
  · rw [canon_nan h]; decide
theorem canon_canon (x : Nat) : canon (canon x) = canon x := by
  cases h : nan x
  · rw [canon_of h, canon_of h]
  · rw [canon_nan h]; decide
theorem keyOf_inj {c d : Nat} (hc : c < 18446744073709551616) (hd : d < 18446744073709551616) (h : keyOf c = keyOf d) : c = d := by
  unfold keyOf at h; split at h <;> split at h <;> omega
theorem keyOf_lt {c : Nat} (hc : c < 18446744073709551616) : keyOf c < 18446744073709551616 := by
  unfold keyOf; split <;> omega

theorem S_zero_iff {x : Nat} : S x = 0 ↔ x % 9223372036854775808 = 0 := by
  unfold S
  constructor
  · intro h
    have hv : V (x % 9223372036854775808) = V 0 := by rw [V_zero]; split at h <;> omega
    exact V_inj hv
  · intro h
    rw [h, V_zero]; split <;> rfl

/-- numbers stand as their keys do, but for two noughts -/
theorem S_lt_iff {x y : Nat} (hx : x < 18446744073709551616) (hy : y < 18446744073709551616) (hz : ¬ (S x = 0 ∧ S y = 0)) : S x < S y ↔ keyOf x < keyOf y := by
  rw [S_zero_iff, S_zero_iff] at hz
  unfold S keyOf
  have h0 := @V_lt_iff (x % 9223372036854775808) (y % 9223372036854775808)
  have h1 := @V_lt_iff (y % 9223372036854775808) (x % 9223372036854775808)
  have h2 := @V_lt_iff 0 (x % 9223372036854775808)
  have h3 := @V_lt_iff 0 (y % 9223372036854775808)
  rw [V_zero] at h2 h3
  split <;> split <;> split <;> split <;> omega

end Go.Proofs.YtafialodjnjihaaDoor.Rl
