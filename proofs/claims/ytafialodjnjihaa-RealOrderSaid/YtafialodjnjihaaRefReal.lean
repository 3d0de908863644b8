/- Numbers with a point: Text, Read, and one contract for each function of the reference. Condition: bits are fewer than 2^64. -/
import Derived.Test.YtafialodjnjihaaReal
namespace Go.Proofs.Ytafialodjnjihaa
open Go Go.RowKit
set_option maxRecDepth 100000
set_option linter.unusedVariables false

/-- the digits of canonical bits -/
def textOf (x : Nat) : ByteArray := ⟨(hex 16 (Rl.canon x)).toArray⟩

theorem text_any (x : Nat) (w : World) (hx : x < 18446744073709551616) :
    Calls Try.prog 37 #[.int .u64 x] w fun e w' => e = .returned (.string (textOf x)) ∧ Below w.heap.size w w' := by
  have H1 := Lib.hid (canon_any x)
  have H2 := Lib.hid (fun w => hex_ok (Rl.canon x) 16 w (by omega) (by omega) (Rl.canon_lt hx) (Rl.canon_lt hx))
  have HT : Hid (textOf x = ⟨(hex 16 (Rl.canon x)).toArray⟩) := Lib.hid rfl
  clear hx
  generalize Rl.canon x = c at *
  go_enter Try.func37, Try.ntmps37
  go_wp2_with fail
  refine (H1.out _).mono ?_
  rintro e w' ⟨rfl, rfl⟩
  go_wp2_with fail
  refine (H2.out _).mono ?_
  rintro e w1 ⟨rfl, hb⟩
  have B := Lib.hid hb
  clear hb
  go_wp2_with fail
  go_ret
  exact ⟨by rw [HT.out]; rfl, B.out⟩

/-- what Unhex answers of any text -/
def unhA (s : ByteArray) : Nat × Nat := if s.size < 1 ∨ 16 < s.size then (0, 2) else unhR s.data.toList
theorem unhA_prog (s : ByteArray) (w : World) : Calls Try.prog 47 #[.string s] w fun e w' => e = .returned (.tuple #[.int .u64 (unhA s).1, .int .i64 (unhA s).2]) ∧ Below w.heap.size w w' := by
  unfold unhA
  by_cases h : s.size < 1 ∨ 16 < s.size
  · rw [if_pos h]; exact same_below (unhex_arg s w h)
  · rw [if_neg h]; exact unhex_ok s w (by omega) (by omega)
theorem unhA_ref (s : ByteArray) (w : World) : Calls Try.prog 48 #[.string s] w fun e w' => e = .returned (.tuple #[.int .u64 (unhA s).1, .int .i64 (unhA s).2]) ∧ Below w.heap.size w w' := by
  unfold unhA
  by_cases h : s.size < 1 ∨ 16 < s.size
  · rw [if_pos h]; exact same_below (refunhex_arg s w h)
  · rw [if_neg h]; exact same_below (refunhex_ok s w (by omega) (by omega))
theorem unh_lt : ∀ (l : List UInt8) (a z : Nat), unh a l = some z → z < (a + 1) * 16 ^ l.length := by
  intro l
  induction l with
  | nil => intro a z h; simp [unh] at h; subst h; simp
  | cons c l ih =>
    intro a z h
    rw [unh] at h
    rcases hd : dig c with _ | d
    · rw [hd] at h; cases h
    · rw [hd] at h
      have h1 := ih _ _ h
      have h16 := dig_lt hd
      rw [List.length_cons, Nat.pow_succ, Nat.mul_comm (16 ^ l.length), ← Nat.mul_assoc]
      exact Nat.lt_of_lt_of_le h1 (Nat.mul_le_mul_right _ (by omega))
theorem unhA_lt (s : ByteArray) : (unhA s).1 < 18446744073709551616 := by
  unfold unhA
  split
  · simp
  · rename_i h
    rcases hu : unh 0 s.data.toList with _ | z
    · rw [unhR_none hu]; simp
    · rw [unhR_some hu]
      have h1 := unh_lt _ _ _ hu
      have h2 : (16 : Nat) ^ s.data.toList.length ≤ 16 ^ 16 := Nat.pow_le_pow_right (by decide) (by rw [len_list]; omega)
      have h3 : (16 : Nat) ^ 16 = 18446744073709551616 := rfl
      show z < _
      omega
theorem unhA_err (s : ByteArray) : (unhA s).2 = 0 ∨ unhA s = (0, 2) := by
  unfold unhA
  split
  · exact .inr rfl
  · rcases hu : unh 0 s.data.toList with _ | z
    · rw [unhR_none hu]; exact .inr rfl
    · rw [unhR_some hu]; exact .inl rfl

/-- what Read answers -/
def readOf (s : ByteArray) : Nat × Nat := if (unhA s).2 = 0 ∧ s.size = 16 ∧ Rl.canon (unhA s).1 = (unhA s).1 then ((unhA s).1, 0) else (0, 2)

theorem read_any (s : ByteArray) (w : World) : Calls Try.prog 29 #[.string s] w fun e w' => e = .returned (.tuple #[.int .u64 (readOf s).1, .int .i64 (readOf s).2]) ∧ Below w.heap.size w w' := by
  have H1 := Lib.hid (unhA_prog s)
  have HC := Lib.hid (fun v => canon_any v)
  have HR : Hid (readOf s = if (unhA s).2 = 0 ∧ s.size = 16 ∧ Rl.canon (unhA s).1 = (unhA s).1 then ((unhA s).1, 0) else (0, 2)) := Lib.hid rfl
  generalize unhA s = r at *
  obtain ⟨v, q⟩ := r
  by_cases h1 : q = 0
  · subst h1
    by_cases h2 : s.size = 16
    · have h2' : ((s.size : Int) != 16) = false := by rw [h2]; rfl
      by_cases h3 : Rl.canon v = v
      · have HX : Hid (readOf s = (v, 0)) := Lib.hid (by rw [HR.out, if_pos ⟨rfl, h2, h3⟩])
        have HV := Lib.hid (HC.out v)
        rw [h3] at HV
        clear HC HR h2 h3
        go_enter Try.func29, Try.ntmps29
        go_wp2_with fail
        refine (H1.out _).mono ?_
        rintro e w1 ⟨rfl, hb⟩
        have B := Lib.hid hb
        clear hb
        go_wp2_with fail
        refine (HV.out _).mono ?_
        rintro e w' ⟨rfl, rfl⟩
        go_wp2_with fail
        go_ret2
        exact ⟨by rw [HX.out]; rfl, B.out⟩
      · have HX : Hid (readOf s = (0, 2)) := Lib.hid (by rw [HR.out, if_neg (fun h => h3 h.2.2)])
        have HV := Lib.hid (HC.out v)
        have hne : ((Rl.canon v : Int) != (v : Int)) = true := by simp; omega
        generalize Rl.canon v = c at *
        clear HC HR h2 h3
        go_enter Try.func29, Try.ntmps29
        go_wp2_with fail
        refine (H1.out _).mono ?_
        rintro e w1 ⟨rfl, hb⟩
        have B := Lib.hid hb
        clear hb
        go_wp2_with fail
        refine (HV.out _).mono ?_
        rintro e w' ⟨rfl, rfl⟩
        go_wp2_with fail
        go_ret2
        exact ⟨by rw [HX.out]; rfl, B.out⟩
    · have HX : Hid (readOf s = (0, 2)) := Lib.hid (by rw [HR.out, if_neg (fun h => h2 h.2.1)])
      have h2' : ((s.size : Int) != 16) = true := by simp; omega
      clear HC HR h2
      go_enter Try.func29, Try.ntmps29
      go_wp2_with fail
      refine (H1.out _).mono ?_
      rintro e w1 ⟨rfl, hb⟩
      have B := Lib.hid hb
      clear hb
      go_wp2_with fail
      go_ret2
      exact ⟨by rw [HX.out]; rfl, B.out⟩
  · have HX : Hid (readOf s = (0, 2)) := Lib.hid (by rw [HR.out, if_neg (fun h => h1 h.1)])
    have h1' : ((q : Int) != 0) = true := by simp; omega
    clear HC HR h1
    go_enter Try.func29, Try.ntmps29
    go_wp2_with fail
    refine (H1.out _).mono ?_
    rintro e w1 ⟨rfl, hb⟩
    have B := Lib.hid hb
    clear hb
    go_wp2_with fail
    go_ret2
    exact ⟨by rw [HX.out]; rfl, B.out⟩


theorem none_any (x : Nat) (w : World) (hx : x < 18446744073709551616) : Calls Try.prog 65 #[.int .u64 x] w fun e w' => e = .returned (.bool (Rl.nan x)) ∧ w = w' := by
  have e1 : ((x : Int) / 4503599627370496 % 2048) = ((x / 4503599627370496 % 2048 : Nat) : Int) := by omega
  have e2 : ((x : Int) % 4503599627370496) = ((x % 4503599627370496 : Nat) : Int) := by omega
  by_cases h1 : x / 4503599627370496 % 2048 = 2047
  · have b1 : ((x : Int) / 4503599627370496 % 2048 == 2047) = true := by rw [e1, h1]; rfl
    by_cases h2 : x % 4503599627370496 = 0
    · have b2 : ((x : Int) % 4503599627370496 != 0) = false := by rw [e2, h2]; rfl
      have HN : Hid (Rl.nan x = false) := Lib.hid (by unfold Rl.nan; apply decide_eq_false; omega)
      clear hx h1 h2 e1 e2
      go_enter Try.func65, Try.ntmps65
      go_wp2_with fail
      go_ret
      exact ⟨by rw [HN.out]; rfl, rfl⟩
    · have b2 : ((x : Int) % 4503599627370496 != 0) = true := by rw [e2]; simp; omega
      have HN : Hid (Rl.nan x = true) := Lib.hid (by unfold Rl.nan; apply decide_eq_true; omega)
      clear hx h1 h2 e1 e2
      go_enter Try.func65, Try.ntmps65
      go_wp2_with fail
      go_ret
      exact ⟨by rw [HN.out]; rfl, rfl⟩
  · have b1 : ((x : Int) / 4503599627370496 % 2048 == 2047) = false := by rw [e1]; simp; omega
    have HN : Hid (Rl.nan x = false) := Lib.hid (by unfold Rl.nan; apply decide_eq_false; omega)
    clear hx h1 e1 e2
    go_enter Try.func65, Try.ntmps65
    go_wp2_with fail
    go_ret
    exact ⟨by rw [HN.out]; rfl, rfl⟩

theorem refcanon_any (x : Nat) (w : World) (hx : x < 18446744073709551616) : Calls Try.prog 32 #[.int .u64 x] w fun e w' => e = .returned (.int .u64 (Rl.canon x)) ∧ w = w' := by
  have H1 := Lib.hid (fun w => none_any x w hx)
  clear hx
  cases hn : Rl.nan x
  · have HC := Lib.hid (Rl.canon_of hn)
    rw [hn] at H1
    clear hn
    go_enter Try.func32, Try.ntmps32
    go_wp2_with fail
    refine (H1.out _).mono ?_
    rintro e w' ⟨rfl, rfl⟩
    go_wp2_with fail
    go_ret
    exact ⟨by rw [HC.out]; rfl, rfl⟩
  · have HC := Lib.hid (Rl.canon_nan hn)
    rw [hn] at H1
    clear hn
    go_enter Try.func32, Try.ntmps32
    go_wp2_with fail
    refine (H1.out _).mono ?_
    rintro e w' ⟨rfl, rfl⟩
    go_wp2_with fail
    go_ret
    exact ⟨by rw [HC.out]; rfl, rfl⟩

theorem refkey_any (x : Nat) (w : World) (hx : x < 18446744073709551616) : Calls Try.prog 36 #[.int .u64 x] w fun e w' => e = .returned (.int .u64 (Rl.key x)) ∧ w = w' := by
  have HC := Lib.hid (fun w => refcanon_any x w hx)
  have hcl := Rl.canon_lt hx
  by_cases hc : Rl.canon x < 9223372036854775808
  · have HK : Hid (Rl.key x = Rl.canon x + 9223372036854775808) := Lib.hid (by unfold Rl.key Rl.keyOf; rw [if_pos hc])
    have h2 : ((Rl.canon x : Int) / 9223372036854775808 == 0) = true := by simp; omega
    have h3 : IntKind.u64.wrap ((Rl.canon x : Int) + 9223372036854775808) = ((Rl.canon x + 9223372036854775808 : Nat) : Int) := by rw [IntKind.wrap_u64]; omega
    have H3 := Lib.hid h3
    clear hc hcl hx h3
    generalize Rl.canon x = c at *
    go_enter Try.func36, Try.ntmps36
    go_wp2_with fail
    refine (HC.out _).mono ?_
    rintro e w' ⟨rfl, rfl⟩
    go_wp2_with fail
    go_ret
    exact ⟨by rw [HK.out, ← H3.out]; rfl, rfl⟩
  · have HK : Hid (Rl.key x = 18446744073709551615 - Rl.canon x) := Lib.hid (by unfold Rl.key Rl.keyOf; rw [if_neg hc])
    have h1 := max_xor _ hcl
    have h2 : ((Rl.canon x : Int) / 9223372036854775808 == 0) = false := by simp; omega
    clear hc hcl hx
    generalize Rl.canon x = c at *
    go_enter Try.func36, Try.ntmps36
    go_wp2_with fail
    refine (HC.out _).mono ?_
    rintro e w' ⟨rfl, rfl⟩
    go_wp2_with fail
    go_ret
    exact ⟨by rw [HK.out, ← h1]; rfl, rfl⟩

/-- 0 below, 1 from +0 up, 2 NaN -/
def rankOf (x : Nat) : Nat := if Rl.nan x = true then 2 else if x / 9223372036854775808 = 1 then 0 else 1
theorem rank_any (x : Nat) (w : World) (hx : x < 18446744073709551616) : Calls Try.prog 66 #[.int .u64 x] w fun e w' => e = .returned (.int .i64 (rankOf x)) ∧ w = w' := by
  have H1 := Lib.hid (fun w => none_any x w hx)
  cases hn : Rl.nan x
  · rw [hn] at H1
    by_cases h : x / 9223372036854775808 = 1
    · have b1 : ((x : Int) / 9223372036854775808 == 1) = true := by simp; omega
      have HK : Hid (rankOf x = 0) := Lib.hid (by unfold rankOf; rw [hn, if_neg (by simp), if_pos h])
      clear h hn hx
      go_enter Try.func66, Try.ntmps66
      go_wp2_with fail
      refine (H1.out _).mono ?_
      rintro e w' ⟨rfl, rfl⟩
      go_wp2_with fail
      go_ret
      exact ⟨by rw [HK.out]; rfl, rfl⟩
    · have b1 : ((x : Int) / 9223372036854775808 == 1) = false := by simp; omega
      have HK : Hid (rankOf x = 1) := Lib.hid (by unfold rankOf; rw [hn, if_neg (by simp), if_neg h])
      clear h hn hx
      go_enter Try.func66, Try.ntmps66
      go_wp2_with fail
      refine (H1.out _).mono ?_
      rintro e w' ⟨rfl, rfl⟩
      go_wp2_with fail
      go_ret
      exact ⟨by rw [HK.out]; rfl, rfl⟩
  · rw [hn] at H1
    have HK : Hid (rankOf x = 2) := Lib.hid (by unfold rankOf; rw [if_pos hn])
    clear hn hx
    go_enter Try.func66, Try.ntmps66
    go_wp2_with fail
    refine (H1.out _).mono ?_
    rintro e w' ⟨rfl, rfl⟩
    go_wp2_with fail
    go_ret
    exact ⟨by rw [HK.out]; rfl, rfl⟩

/-- the reference's order is the keys' -/
theorem rank_key (a b : Nat) (ha : a < 18446744073709551616) (hb : b < 18446744073709551616) :
    (if rankOf (Rl.canon a) ≠ rankOf (Rl.canon b) then decide (rankOf (Rl.canon a) < rankOf (Rl.canon b)) else if rankOf (Rl.canon a) = 0 then decide (Rl.canon b < Rl.canon a) else decide (Rl.canon a < Rl.canon b)) = decide (Rl.key a < Rl.key b) := by
  have h1 := Rl.canon_lt ha
  have h2 := Rl.canon_lt hb
  have fact : ∀ x, (Rl.nan (Rl.canon x) = true ∧ Rl.canon x = 9221120237041090561) ∨ (Rl.nan (Rl.canon x) = false ∧ Rl.canon x % 9223372036854775808 ≤ 9218868437227405312) := by
    intro x
    cases hn : Rl.nan x
    · right
      rw [Rl.canon_of hn]
      refine ⟨hn, ?_⟩
      rcases Rl.not_nan hn with h | h <;> omega
    · left
      rw [Rl.canon_nan hn]
      exact ⟨by decide, rfl⟩
  unfold Rl.key Rl.keyOf rankOf
  rcases fact a with ⟨n1, c1⟩ | ⟨n1, c1⟩ <;> rcases fact b with ⟨n2, c2⟩ | ⟨n2, c2⟩ <;> rw [n1, n2] <;> simp only [if_true, Bool.false_eq_true, if_false]
  · rw [c1, c2]; rfl
  · rw [c1]
    generalize Rl.canon b = y at *
    (repeat' split) <;> first | (apply decide_eq_decide.2; omega) | omega
  · rw [c2]
    generalize Rl.canon a = y at *
    (repeat' split) <;> first | (apply decide_eq_decide.2; omega) | omega
  · generalize Rl.canon a = x at *
    generalize Rl.canon b = y at *
    (repeat' split) <;> first | (apply decide_eq_decide.2; omega) | omega

theorem reftext_any (x : Nat) (w : World) (hx : x < 18446744073709551616) :
    Calls Try.prog 38 #[.int .u64 x] w fun e w' => e = .returned (.string (textOf x)) ∧ w = w' := by
  have H1 := Lib.hid (fun w => refcanon_any x w hx)
  have H2 := Lib.hid (fun w => refhex_ok (Rl.canon x) 16 w (by omega) (by omega) (Rl.canon_lt hx) (Rl.canon_lt hx))
  have HT : Hid (textOf x = ⟨(hex 16 (Rl.canon x)).toArray⟩) := Lib.hid rfl
  clear hx
  generalize Rl.canon x = c at *
  go_enter Try.func38, Try.ntmps38
  go_wp2_with fail
  refine (H1.out _).mono ?_
  rintro e w' ⟨rfl, rfl⟩
  go_wp2_with fail
  refine (H2.out _).mono ?_
  rintro e w1 ⟨rfl, rfl⟩
  go_wp2_with fail
  go_ret
  exact ⟨by rw [HT.out]; rfl, rfl⟩

theorem refread_any (s : ByteArray) (w : World) : Calls Try.prog 30 #[.string s] w fun e w' => e = .returned (.tuple #[.int .u64 (readOf s).1, .int .i64 (readOf s).2]) ∧ Below w.heap.size w w' := by
  have H1 := Lib.hid (unhA_ref s)
  have HC := Lib.hid (fun w => refcanon_any (unhA s).1 w (unhA_lt s))
  have HR : Hid (readOf s = if (unhA s).2 = 0 ∧ s.size = 16 ∧ Rl.canon (unhA s).1 = (unhA s).1 then ((unhA s).1, 0) else (0, 2)) := Lib.hid rfl
  generalize unhA s = r at *
  obtain ⟨v, q⟩ := r
  by_cases h1 : q = 0
  · subst h1
    by_cases h2 : s.size = 16
    · have h2' : ((s.size : Int) != 16) = false := by rw [h2]; rfl
      by_cases h3 : Rl.canon v = v
      · have HX : Hid (readOf s = (v, 0)) := Lib.hid (by rw [HR.out, if_pos ⟨rfl, h2, h3⟩])
        have HV := Lib.hid HC.out
        rw [h3] at HV
        clear HC HR h2 h3
        go_enter Try.func30, Try.ntmps30
        go_wp2_with fail
        refine (H1.out _).mono ?_
        rintro e w1 ⟨rfl, hb⟩
        have B := Lib.hid hb
        clear hb
        go_wp2_with fail
        refine (HV.out _).mono ?_
        rintro e w' ⟨rfl, rfl⟩
        go_wp2_with fail
        go_ret2
        exact ⟨by rw [HX.out]; rfl, B.out⟩
      · have HX : Hid (readOf s = (0, 2)) := Lib.hid (by rw [HR.out, if_neg (fun h => h3 h.2.2)])
        have HV := Lib.hid HC.out
        have hne : ((Rl.canon v : Int) != (v : Int)) = true := by simp; omega
        generalize Rl.canon v = c at *
        clear HC HR h2 h3
        go_enter Try.func30, Try.ntmps30
        go_wp2_with fail
        refine (H1.out _).mono ?_
        rintro e w1 ⟨rfl, hb⟩
        have B := Lib.hid hb
        clear hb
        go_wp2_with fail
        refine (HV.out _).mono ?_
        rintro e w' ⟨rfl, rfl⟩
        go_wp2_with fail
        go_ret2
        exact ⟨by rw [HX.out]; rfl, B.out⟩
    · have HX : Hid (readOf s = (0, 2)) := Lib.hid (by rw [HR.out, if_neg (fun h => h2 h.2.1)])
      have h2' : ((s.size : Int) != 16) = true := by simp; omega
      clear HC HR h2
      go_enter Try.func30, Try.ntmps30
      go_wp2_with fail
      refine (H1.out _).mono ?_
      rintro e w1 ⟨rfl, hb⟩
      have B := Lib.hid hb
      clear hb
      go_wp2_with fail
      go_ret2
      exact ⟨by rw [HX.out]; rfl, B.out⟩
  · have HX : Hid (readOf s = (0, 2)) := Lib.hid (by rw [HR.out, if_neg (fun h => h1 h.1)])
    have h1' : ((q : Int) != 0) = true := by simp; omega
    clear HC HR h1
    go_enter Try.func30, Try.ntmps30
    go_wp2_with fail
    refine (H1.out _).mono ?_
    rintro e w1 ⟨rfl, hb⟩
    have B := Lib.hid hb
    clear hb
    go_wp2_with fail
    go_ret2
    exact ⟨by rw [HX.out]; rfl, B.out⟩

set_option maxHeartbeats 1000000 in
theorem refless_rank (a b c d p q : Nat) (w : World) (h1 : ∀ w, Calls Try.prog 32 #[.int .u64 a] w fun e w' => e = .returned (.int .u64 c) ∧ w = w') (h2 : ∀ w, Calls Try.prog 32 #[.int .u64 b] w fun e w' => e = .returned (.int .u64 d) ∧ w = w')
    (h3 : ∀ w, Calls Try.prog 66 #[.int .u64 c] w fun e w' => e = .returned (.int .i64 p) ∧ w = w') (h4 : ∀ w, Calls Try.prog 66 #[.int .u64 d] w fun e w' => e = .returned (.int .i64 q) ∧ w = w') (hr : ((p : Int) != (q : Int)) = true) :
    Calls Try.prog 34 #[.int .u64 a, .int .u64 b] w fun e w' => e = .returned (.bool (decide (p < q))) ∧ w = w' := by
  have H1 := Lib.hid h1; clear h1
  have H2 := Lib.hid h2; clear h2
  have H3 := Lib.hid h3; clear h3
  have H4 := Lib.hid h4; clear h4
  go_enter Try.func34, Try.ntmps34
  go_wp2_with fail
  refine (H1.out _).mono ?_
  rintro e w' ⟨rfl, rfl⟩
  go_wp2_with fail
  refine (H2.out _).mono ?_
  rintro e w' ⟨rfl, rfl⟩
  go_wp2_with fail
  refine (H3.out _).mono ?_
  rintro e w' ⟨rfl, rfl⟩
  go_wp2_with fail
  refine (H4.out _).mono ?_
  rintro e w' ⟨rfl, rfl⟩
  go_wp2_with fail
  refine (H3.out _).mono ?_
  rintro e w' ⟨rfl, rfl⟩
  go_wp2_with fail
  refine (H4.out _).mono ?_
  rintro e w' ⟨rfl, rfl⟩
  go_wp2_with fail
  go_ret
  exact ⟨by simp, rfl⟩
set_option maxHeartbeats 1000000 in
theorem refless_low (a b c d p q : Nat) (w : World) (h1 : ∀ w, Calls Try.prog 32 #[.int .u64 a] w fun e w' => e = .returned (.int .u64 c) ∧ w = w') (h2 : ∀ w, Calls Try.prog 32 #[.int .u64 b] w fun e w' => e = .returned (.int .u64 d) ∧ w = w')
    (h3 : ∀ w, Calls Try.prog 66 #[.int .u64 c] w fun e w' => e = .returned (.int .i64 p) ∧ w = w') (h4 : ∀ w, Calls Try.prog 66 #[.int .u64 d] w fun e w' => e = .returned (.int .i64 q) ∧ w = w') (hr : ((p : Int) != (q : Int)) = false) (h0 : ((p : Int) == 0) = true) :
    Calls Try.prog 34 #[.int .u64 a, .int .u64 b] w fun e w' => e = .returned (.bool (decide (d < c))) ∧ w = w' := by
  have H1 := Lib.hid h1; clear h1
  have H2 := Lib.hid h2; clear h2
  have H3 := Lib.hid h3; clear h3
  have H4 := Lib.hid h4; clear h4
  go_enter Try.func34, Try.ntmps34
  go_wp2_with fail
  refine (H1.out _).mono ?_
  rintro e w' ⟨rfl, rfl⟩
  go_wp2_with fail
  refine (H2.out _).mono ?_
  rintro e w' ⟨rfl, rfl⟩
  go_wp2_with fail
  refine (H3.out _).mono ?_
  rintro e w' ⟨rfl, rfl⟩
  go_wp2_with fail
  refine (H4.out _).mono ?_
  rintro e w' ⟨rfl, rfl⟩
  go_wp2_with fail
  refine (H3.out _).mono ?_
  rintro e w' ⟨rfl, rfl⟩
  go_wp2_with fail
  go_ret
  exact ⟨by simp, rfl⟩
set_option maxHeartbeats 1000000 in
theorem refless_high (a b c d p q : Nat) (w : World) (h1 : ∀ w, Calls Try.prog 32 #[.int .u64 a] w fun e w' => e = .returned (.int .u64 c) ∧ w = w') (h2 : ∀ w, Calls Try.prog 32 #[.int .u64 b] w fun e w' => e = .returned (.int .u64 d) ∧ w = w')
    (h3 : ∀ w, Calls Try.prog 66 #[.int .u64 c] w fun e w' => e = .returned (.int .i64 p) ∧ w = w') (h4 : ∀ w, Calls Try.prog 66 #[.int .u64 d] w fun e w' => e = .returned (.int .i64 q) ∧ w = w') (hr : ((p : Int) != (q : Int)) = false) (h0 : ((p : Int) == 0) = false) :
    Calls Try.prog 34 #[.int .u64 a, .int .u64 b] w fun e w' => e = .returned (.bool (decide (c < d))) ∧ w = w' := by
  have H1 := Lib.hid h1; clear h1
  have H2 := Lib.hid h2; clear h2
  have H3 := Lib.hid h3; clear h3
  have H4 := Lib.hid h4; clear h4
  go_enter Try.func34, Try.ntmps34
  go_wp2_with fail
  refine (H1.out _).mono ?_
  rintro e w' ⟨rfl, rfl⟩
  go_wp2_with fail
  refine (H2.out _).mono ?_
  rintro e w' ⟨rfl, rfl⟩
  go_wp2_with fail
  refine (H3.out _).mono ?_
  rintro e w' ⟨rfl, rfl⟩
  go_wp2_with fail
  refine (H4.out _).mono ?_
  rintro e w' ⟨rfl, rfl⟩
  go_wp2_with fail
  refine (H3.out _).mono ?_
  rintro e w' ⟨rfl, rfl⟩
  go_wp2_with fail
  go_ret
  exact ⟨by simp, rfl⟩
theorem refless_any (a b : Nat) (w : World) (ha : a < 18446744073709551616) (hb : b < 18446744073709551616) :
    Calls Try.prog 34 #[.int .u64 a, .int .u64 b] w fun e w' => e = .returned (.bool (decide (Rl.key a < Rl.key b))) ∧ w = w' := by
  rw [← rank_key a b ha hb]
  have h1 := fun w => refcanon_any a w ha
  have h2 := fun w => refcanon_any b w hb
  have h3 := fun w => rank_any (Rl.canon a) w (Rl.canon_lt ha)
  have h4 := fun w => rank_any (Rl.canon b) w (Rl.canon_lt hb)
  by_cases hr : rankOf (Rl.canon a) = rankOf (Rl.canon b)
  · have hr' : ((rankOf (Rl.canon a) : Int) != (rankOf (Rl.canon b) : Int)) = false := by rw [hr]; simp
    rw [if_neg (by rw [hr]; simp)]
    by_cases h0 : rankOf (Rl.canon a) = 0
    · rw [if_pos h0]
      exact refless_low a b _ _ _ _ w h1 h2 h3 h4 hr' (by rw [h0]; rfl)
    · rw [if_neg h0]
      exact refless_high a b _ _ _ _ w h1 h2 h3 h4 hr' (by simp; omega)
  · rw [if_pos hr]
    exact refless_rank a b _ _ _ _ w h1 h2 h3 h4 (by simp; omega)

theorem refback_any (k : Nat) (w : World) (hk : k < 18446744073709551616) :
    Calls Try.prog 28 #[.int .u64 k] w fun e w' => e = .returned (.tuple #[.int .u64 (back k).1, .int .i64 (back k).2]) ∧ w = w' := by
  have HK := Lib.hid (fun w => refkey_any (tryBack k) w (tryBack_lt k hk))
  have HB : Hid (back k = if Rl.key (tryBack k) = k then (tryBack k, 0) else (0, 2)) := Lib.hid rfl
  have hm := max_xor k hk
  by_cases h : 9223372036854775808 ≤ k
  · have HT : Hid (tryBack k = k - 9223372036854775808) := Lib.hid (by unfold tryBack; rw [if_pos h])
    have b1 : ((k : Int) / 9223372036854775808 == 1) = true := by simp; omega
    have h2 : IntKind.u64.wrap ((k : Int) - 9223372036854775808) = ((tryBack k : Nat) : Int) := by rw [HT.out, IntKind.wrap_u64]; omega
    clear h hk HT
    generalize tryBack k = t at *
    by_cases h : Rl.key t = k
    · have hd : ((k : Int) != (k : Int)) = false := by simp
      rw [h] at HK
      have HR : Hid (back k = (t, 0)) := Lib.hid (by rw [HB.out, if_pos h])
      clear HB h
      go_enter Try.func28, Try.ntmps28
      go_wp2_with fail
      refine (HK.out _).mono ?_
      rintro e w' ⟨rfl, rfl⟩
      go_wp2_with fail
      go_ret2
      exact ⟨by rw [HR.out]; rfl, rfl⟩
    · have hd : ((Rl.key t : Int) != (k : Int)) = true := by simp; omega
      have HR : Hid (back k = (0, 2)) := Lib.hid (by rw [HB.out, if_neg h])
      clear HB h
      generalize Rl.key t = y at *
      go_enter Try.func28, Try.ntmps28
      go_wp2_with fail
      refine (HK.out _).mono ?_
      rintro e w' ⟨rfl, rfl⟩
      go_wp2_with fail
      go_ret2
      exact ⟨by rw [HR.out]; rfl, rfl⟩
  · have HT : Hid (tryBack k = 18446744073709551615 - k) := Lib.hid (by unfold tryBack; rw [if_neg h])
    have b1 : ((k : Int) / 9223372036854775808 == 1) = false := by simp; omega
    rw [← HT.out] at hm
    clear h hk HT
    generalize tryBack k = t at *
    by_cases h : Rl.key t = k
    · have hd : ((k : Int) != (k : Int)) = false := by simp
      rw [h] at HK
      have HR : Hid (back k = (t, 0)) := Lib.hid (by rw [HB.out, if_pos h])
      clear HB h
      go_enter Try.func28, Try.ntmps28
      go_wp2_with fail
      refine (HK.out _).mono ?_
      rintro e w' ⟨rfl, rfl⟩
      go_wp2_with fail
      go_ret2
      exact ⟨by rw [HR.out]; rfl, rfl⟩
    · have hd : ((Rl.key t : Int) != (k : Int)) = true := by simp; omega
      have HR : Hid (back k = (0, 2)) := Lib.hid (by rw [HB.out, if_neg h])
      clear HB h
      generalize Rl.key t = y at *
      go_enter Try.func28, Try.ntmps28
      go_wp2_with fail
      refine (HK.out _).mono ?_
      rintro e w' ⟨rfl, rfl⟩
      go_wp2_with fail
      go_ret2
      exact ⟨by rw [HR.out]; rfl, rfl⟩

end Go.Proofs.Ytafialodjnjihaa
