/- WordBack: what was put is got, what was told in digits is read, and the other way round. The walk of the law. Conditions: the numbers fit their kinds. -/
import Derived.Test.YtafialodjnjihaaAlive01
import Derived.Test.YtafialodjnjihaaNums
namespace Go.Proofs.Ytafialodjnjihaa
open Go Go.RowKit
set_option maxRecDepth 100000
set_option linter.unusedVariables false

theorem le_cons (n v : Nat) : le (n + 1) v = UInt8.ofNat v :: le n (v / 256) := by
  unfold le
  rw [List.range_succ_eq_map, List.map_cons, List.map_map]
  congr 1
  · simp
  · apply List.map_congr_left
    intro k _
    simp only [Function.comp]
    congr 1
    rw [show 8 * (k + 1) = 8 + 8 * k by omega, Nat.pow_add, Nat.div_div_eq_div_mul]
theorem le_ofLe (l : List UInt8) : le l.length (ofLe l) = l := by
  induction l with
  | nil => rfl
  | cons b l ih =>
    rw [List.length_cons, le_cons, ofLe]
    have hb : b.toNat < 256 := b.toNat_lt
    have e1 : (b.toNat + 256 * ofLe l) / 256 = ofLe l := by omega
    have e2 : UInt8.ofNat (b.toNat + 256 * ofLe l) = b := by
      apply UInt8.toNat_inj.1
      rw [UInt8.toNat_ofNat']
      omega
    rw [e1, e2, ih]
theorem ofLe_le (n : Nat) : ∀ v, v < 2 ^ (8 * n) → ofLe (le n v) = v := by
  induction n with
  | zero => intro v h; simp at h; simp [le, ofLe, h]
  | succ n ih =>
    intro v h
    have e : (2 : Nat) ^ (8 * (n + 1)) = 256 * 2 ^ (8 * n) := by rw [Nat.mul_succ, Nat.pow_add, Nat.mul_comm]
    rw [e] at h
    rw [le_cons, ofLe, ih (v / 256) (by omega), UInt8.toNat_ofNat']
    omega
theorem dig_hexd (d : Nat) (h : d < 16) : dig (hexd d) = some d := by
  have hall : ∀ d : Fin 16, dig (hexd d.1) = some d.1 := by decide
  exact hall ⟨d, h⟩
theorem hexd_dig {c : UInt8} {d : Nat} (h : dig c = some d) : hexd d = c := by
  unfold dig at h
  apply UInt8.toNat_inj.1
  split at h
  · simp at h; rw [hexd_nat d (by omega), if_pos (by omega)]; omega
  · split at h
    · simp at h; rw [hexd_nat d (by omega), if_neg (by omega)]; omega
    · cases h
theorem unh_low (v : Nat) : ∀ i a, unh a (lowHex i v) = some (a * 2 ^ (4 * i) + v % 2 ^ (4 * i)) := by
  intro i
  induction i with
  | zero => intro a; simp [lowHex, unh, Nat.mod_one]
  | succ i ih =>
    intro a
    rw [lowHex, unh, dig_hexd _ (by omega)]
    simp only []
    rw [ih]
    congr 1
    have e : (2 : Nat) ^ (4 * (i + 1)) = 2 ^ (4 * i) * 16 := by rw [Nat.mul_succ, Nat.pow_add]
    rw [e, Nat.mod_mul, Nat.add_mul]
    have e3 : 16 * a * 2 ^ (4 * i) = a * (2 ^ (4 * i) * 16) := by rw [Nat.mul_comm 16 a, Nat.mul_assoc, Nat.mul_comm 16]
    have e4 : v / 2 ^ (4 * i) % 16 * 2 ^ (4 * i) = 2 ^ (4 * i) * (v / 2 ^ (4 * i) % 16) := Nat.mul_comm _ _
    omega
theorem unhR_hex (n v : Nat) (h : v < 2 ^ (4 * n)) : unhR (hex n v) = (v, 0) := by
  apply unhR_some
  rw [← lowHex_hex, unh_low, Nat.mod_eq_of_lt h]
  simp
theorem low_of_unh : ∀ (l : List UInt8) (a z : Nat), unh a l = some z → lowHex l.length z = l ∧ z / 2 ^ (4 * l.length) = a := by
  intro l
  induction l with
  | nil => intro a z h; simp [unh] at h; subst h; simp [lowHex]
  | cons c l ih =>
    intro a z h
    rw [unh] at h
    rcases hd : dig c with _ | d
    · rw [hd] at h; cases h
    · rw [hd] at h
      obtain ⟨h1, h2⟩ := ih _ _ h
      have h16 := dig_lt hd
      rw [List.length_cons, lowHex, h1, h2]
      constructor
      · have : (16 * a + d) % 16 = d := by omega
        rw [this, hexd_dig hd]
      · rw [Nat.mul_succ, Nat.pow_add, ← Nat.div_div_eq_div_mul, h2]
        have : (2 : Nat) ^ 4 = 16 := rfl
        omega
theorem hex_of_unh {l : List UInt8} {z : Nat} (h : unh 0 l = some z) : hex l.length z = l ∧ z < 2 ^ (l.length * 4) := by
  obtain ⟨h1, h2⟩ := low_of_unh l 0 z h
  refine ⟨by rw [← lowHex_hex]; exact h1, ?_⟩
  rcases Nat.lt_or_ge z (2 ^ (4 * l.length)) with h3 | h3
  · rwa [Nat.mul_comm]
  · have := Nat.div_pos h3 (Nat.two_pow_pos _)
    omega
theorem mk_list (s : ByteArray) : (⟨s.data.toList.toArray⟩ : ByteArray) = s := by cases s; rfl
theorem len_list (s : ByteArray) : s.data.toList.length = s.size := by cases s; rfl

/-- the four calls at one number -/
theorem put_get (v k : Nat) (h1 : 1 ≤ k) (h8 : k ≤ 8) (hv : v < 18446744073709551616) (hf : v < 2 ^ (8 * k)) :
    ∃ t : ByteArray, t.size = k ∧ Text2 41 #[.int .u64 v, .int .i64 k] t 0 ∧ Num2 43 #[.string t] v 0 := by
  refine ⟨⟨(le k v).toArray⟩, by simp [ByteArray.size, le_len], fun w => put_ok v k w h1 h8 hv (by rwa [Nat.mul_comm]), fun w => ?_⟩
  have h := get_ok ⟨(le k v).toArray⟩ w (by simp [ByteArray.size, le_len]; omega) (by simp [ByteArray.size, le_len]; omega)
  rw [show (⟨(le k v).toArray⟩ : ByteArray).data.toList = le k v by simp, ofLe_le k v hf] at h
  exact same_below h
theorem hex_unhex (v k : Nat) (h1 : 1 ≤ k) (h8 : k ≤ 8) (hv : v < 18446744073709551616) (hf : v < 2 ^ (8 * k)) :
    ∃ t : ByteArray, t.size = 2 * k ∧ Text2 45 #[.int .u64 v, .int .i64 (2 * k : Nat)] t 0 ∧ Num2 47 #[.string t] v 0 := by
  have hf2 : v < 2 ^ (4 * (2 * k)) := by rw [show 4 * (2 * k) = 8 * k by omega]; exact hf
  refine ⟨⟨(hex (2 * k) v).toArray⟩, by simp [ByteArray.size, hex, hexP_len], fun w => hex_ok v (2 * k) w (by omega) (by omega) hv (by rwa [Nat.mul_comm]), fun w => ?_⟩
  have h := unhex_ok ⟨(hex (2 * k) v).toArray⟩ w (by simp [ByteArray.size, hex, hexP_len]; omega) (by simp [ByteArray.size, hex, hexP_len]; omega)
  rw [show (⟨(hex (2 * k) v).toArray⟩ : ByteArray).data.toList = hex (2 * k) v by simp, unhR_hex _ v hf2] at h
  exact h
/-- a text is got, and put again; or it is none -/
theorem get_put (s : ByteArray) : Num2 43 #[.string s] 0 2 ∨ ∃ y : Nat, Num2 43 #[.string s] y 0 ∧ Text2 41 #[.int .u64 y, .int .i64 s.size] s 0 := by
  by_cases h : s.size < 1 ∨ 8 < s.size
  · exact .inl fun w => same_below (get_arg s w h)
  · refine .inr ⟨ofLe s.data.toList, fun w => same_below (get_ok s w (by omega) (by omega)), fun w => ?_⟩
    have hl := ofLe_lt s.data.toList
    rw [len_list] at hl
    have h64 : (2 : Nat) ^ (8 * s.size) ≤ 2 ^ 64 := Nat.pow_le_pow_right (by decide) (by omega)
    rw [show (2 : Nat) ^ 64 = 18446744073709551616 from rfl] at h64
    have h := put_ok (ofLe s.data.toList) s.size w (by omega) (by omega) (by omega) (by rwa [Nat.mul_comm])
    have e := le_ofLe s.data.toList
    rw [len_list] at e
    rw [e, mk_list] at h
    exact h
theorem unhex_hex (d : ByteArray) : Num2 47 #[.string d] 0 2 ∨ ∃ z : Nat, Num2 47 #[.string d] z 0 ∧ Text2 45 #[.int .u64 z, .int .i64 d.size] d 0 := by
  by_cases h : d.size < 1 ∨ 16 < d.size
  · exact .inl fun w => same_below (unhex_arg d w h)
  · rcases hu : unh 0 d.data.toList with _ | z
    · refine .inl fun w => ?_
      have h := unhex_ok d w (by omega) (by omega)
      rw [unhR_none hu] at h
      exact h
    · obtain ⟨h1, h2⟩ := hex_of_unh hu
      rw [len_list] at h1 h2
      have h64 : (2 : Nat) ^ (d.size * 4) ≤ 2 ^ 64 := Nat.pow_le_pow_right (by decide) (by omega)
      rw [show (2 : Nat) ^ 64 = 18446744073709551616 from rfl] at h64
      refine .inr ⟨z, fun w => ?_, fun w => ?_⟩
      · have h := unhex_ok d w (by omega) (by omega)
        rw [unhR_some hu] at h
        exact h
      · have h := hex_ok z d.size w (by omega) (by omega) (by omega) h2
        rw [h1, mk_list] at h
        exact h

set_option maxHeartbeats 1000000 in
theorem wordBack_000 (v n : Nat) (hn : (n : Int) % 8 = 7) (hn2 : (n : Int) < 256) (s d : ByteArray) (t1 t2 : ByteArray) (s1 : (t1.size : Int) = 8) (s2 : (t2.size : Int) = 16)
    (h1 : Text2 41 #[.int .u64 v, .int .i64 8] t1 0) (h2 : Num2 43 #[.string t1] v 0) (h3 : Text2 45 #[.int .u64 v, .int .i64 16] t2 0) (h4 : Num2 47 #[.string t2] v 0) (hg : Num2 43 #[.string s] 0 2) (hu : Num2 47 #[.string d] 0 2) (w : World) :
    Calls Try.prog 11 #[.int .u64 v, .int .u8 n, .string s, .string d] w fun e w' => e = .returned (.bool true) ∧ Below w.heap.size w w' := by
  have H1 := Lib.hid h1; clear h1
  have H2 := Lib.hid h2; clear h2
  have H3 := Lib.hid h3; clear h3
  have H4 := Lib.hid h4; clear h4
  have HG := Lib.hid hg; clear hg
  have HU := Lib.hid hu; clear hu
  have B0 := Lib.hid (Below.refl w.heap.size w)
  go_enter Try.func11, Try.ntmps11
  go_wp2_with fail
  refine (H1.out _).mono ?_
  rintro e w1 ⟨rfl, hb⟩
  have B1 := Lib.hid (B0.out.trans (hb.mono B0.out.size))
  clear hb B0
  go_wp2_with fail
  refine (H2.out _).mono ?_
  rintro e w2 ⟨rfl, hb⟩
  have B2 := Lib.hid (B1.out.trans (hb.mono B1.out.size))
  clear hb B1
  go_wp2_with fail
  refine (H3.out _).mono ?_
  rintro e w3 ⟨rfl, hb⟩
  have B3 := Lib.hid (B2.out.trans (hb.mono B2.out.size))
  clear hb B2
  go_wp2_with fail
  refine (H4.out _).mono ?_
  rintro e w4 ⟨rfl, hb⟩
  have B4 := Lib.hid (B3.out.trans (hb.mono B3.out.size))
  clear hb B3
  go_wp2_with fail
  refine (HG.out _).mono ?_
  rintro e w5 ⟨rfl, hb⟩
  have B5 := Lib.hid (B4.out.trans (hb.mono B4.out.size))
  clear hb B4
  go_wp2_with fail
  refine (HU.out _).mono ?_
  rintro e w6 ⟨rfl, hb⟩
  have B6 := Lib.hid (B5.out.trans (hb.mono B5.out.size))
  clear hb B5
  go_wp2_with fail
  refine (alive01 _).mono ?_
  rintro e w7 ⟨rfl, hb⟩
  have B7 := Lib.hid (B6.out.trans (hb.mono B6.out.size))
  clear hb B6
  go_wp2_with fail
  go_ret
  exact ⟨rfl, B7.out⟩

set_option maxHeartbeats 1000000 in
theorem wordBack_001 (v n : Nat) (hn : (n : Int) % 8 = 7) (hn2 : (n : Int) < 256) (s d : ByteArray) (t1 t2 : ByteArray) (s1 : (t1.size : Int) = 8) (s2 : (t2.size : Int) = 16)
    (h1 : Text2 41 #[.int .u64 v, .int .i64 8] t1 0) (h2 : Num2 43 #[.string t1] v 0) (h3 : Text2 45 #[.int .u64 v, .int .i64 16] t2 0) (h4 : Num2 47 #[.string t2] v 0) (hg : Num2 43 #[.string s] 0 2) (z : Int) (hu : Num2 47 #[.string d] z 0) (hx : Text2 45 #[.int .u64 z, .int .i64 d.size] d 0) (w : World) :
    Calls Try.prog 11 #[.int .u64 v, .int .u8 n, .string s, .string d] w fun e w' => e = .returned (.bool true) ∧ Below w.heap.size w w' := by
  have H1 := Lib.hid h1; clear h1
  have H2 := Lib.hid h2; clear h2
  have H3 := Lib.hid h3; clear h3
  have H4 := Lib.hid h4; clear h4
  have HG := Lib.hid hg; clear hg
  have HU := Lib.hid hu; clear hu
  have HX := Lib.hid hx; clear hx
  have B0 := Lib.hid (Below.refl w.heap.size w)
  go_enter Try.func11, Try.ntmps11
  go_wp2_with fail
  refine (H1.out _).mono ?_
  rintro e w1 ⟨rfl, hb⟩
  have B1 := Lib.hid (B0.out.trans (hb.mono B0.out.size))
  clear hb B0
  go_wp2_with fail
  refine (H2.out _).mono ?_
  rintro e w2 ⟨rfl, hb⟩
  have B2 := Lib.hid (B1.out.trans (hb.mono B1.out.size))
  clear hb B1
  go_wp2_with fail
  refine (H3.out _).mono ?_
  rintro e w3 ⟨rfl, hb⟩
  have B3 := Lib.hid (B2.out.trans (hb.mono B2.out.size))
  clear hb B2
  go_wp2_with fail
  refine (H4.out _).mono ?_
  rintro e w4 ⟨rfl, hb⟩
  have B4 := Lib.hid (B3.out.trans (hb.mono B3.out.size))
  clear hb B3
  go_wp2_with fail
  refine (HG.out _).mono ?_
  rintro e w5 ⟨rfl, hb⟩
  have B5 := Lib.hid (B4.out.trans (hb.mono B4.out.size))
  clear hb B4
  go_wp2_with fail
  refine (HU.out _).mono ?_
  rintro e w6 ⟨rfl, hb⟩
  have B6 := Lib.hid (B5.out.trans (hb.mono B5.out.size))
  clear hb B5
  go_wp2_with fail
  refine (HX.out _).mono ?_
  rintro e w7 ⟨rfl, hb⟩
  have B7 := Lib.hid (B6.out.trans (hb.mono B6.out.size))
  clear hb B6
  go_wp2_with fail
  refine (alive01 _).mono ?_
  rintro e w8 ⟨rfl, hb⟩
  have B8 := Lib.hid (B7.out.trans (hb.mono B7.out.size))
  clear hb B7
  go_wp2_with fail
  go_ret
  exact ⟨rfl, B8.out⟩

set_option maxHeartbeats 1000000 in
theorem wordBack_010 (v n : Nat) (hn : (n : Int) % 8 = 7) (hn2 : (n : Int) < 256) (s d : ByteArray) (t1 t2 : ByteArray) (s1 : (t1.size : Int) = 8) (s2 : (t2.size : Int) = 16)
    (h1 : Text2 41 #[.int .u64 v, .int .i64 8] t1 0) (h2 : Num2 43 #[.string t1] v 0) (h3 : Text2 45 #[.int .u64 v, .int .i64 16] t2 0) (h4 : Num2 47 #[.string t2] v 0) (y : Int) (hg : Num2 43 #[.string s] y 0) (hpp : Text2 41 #[.int .u64 y, .int .i64 s.size] s 0) (hu : Num2 47 #[.string d] 0 2) (w : World) :
    Calls Try.prog 11 #[.int .u64 v, .int .u8 n, .string s, .string d] w fun e w' => e = .returned (.bool true) ∧ Below w.heap.size w w' := by
  have H1 := Lib.hid h1; clear h1
  have H2 := Lib.hid h2; clear h2
  have H3 := Lib.hid h3; clear h3
  have H4 := Lib.hid h4; clear h4
  have HG := Lib.hid hg; clear hg
  have HU := Lib.hid hu; clear hu
  have HPP := Lib.hid hpp; clear hpp
  have B0 := Lib.hid (Below.refl w.heap.size w)
  go_enter Try.func11, Try.ntmps11
  go_wp2_with fail
  refine (H1.out _).mono ?_
  rintro e w1 ⟨rfl, hb⟩
  have B1 := Lib.hid (B0.out.trans (hb.mono B0.out.size))
  clear hb B0
  go_wp2_with fail
  refine (H2.out _).mono ?_
  rintro e w2 ⟨rfl, hb⟩
  have B2 := Lib.hid (B1.out.trans (hb.mono B1.out.size))
  clear hb B1
  go_wp2_with fail
  refine (H3.out _).mono ?_
  rintro e w3 ⟨rfl, hb⟩
  have B3 := Lib.hid (B2.out.trans (hb.mono B2.out.size))
  clear hb B2
  go_wp2_with fail
  refine (H4.out _).mono ?_
  rintro e w4 ⟨rfl, hb⟩
  have B4 := Lib.hid (B3.out.trans (hb.mono B3.out.size))
  clear hb B3
  go_wp2_with fail
  refine (HG.out _).mono ?_
  rintro e w5 ⟨rfl, hb⟩
  have B5 := Lib.hid (B4.out.trans (hb.mono B4.out.size))
  clear hb B4
  go_wp2_with fail
  refine (HPP.out _).mono ?_
  rintro e w6 ⟨rfl, hb⟩
  have B6 := Lib.hid (B5.out.trans (hb.mono B5.out.size))
  clear hb B5
  go_wp2_with fail
  refine (HU.out _).mono ?_
  rintro e w7 ⟨rfl, hb⟩
  have B7 := Lib.hid (B6.out.trans (hb.mono B6.out.size))
  clear hb B6
  go_wp2_with fail
  refine (alive01 _).mono ?_
  rintro e w8 ⟨rfl, hb⟩
  have B8 := Lib.hid (B7.out.trans (hb.mono B7.out.size))
  clear hb B7
  go_wp2_with fail
  go_ret
  exact ⟨rfl, B8.out⟩

set_option maxHeartbeats 1000000 in
theorem wordBack_011 (v n : Nat) (hn : (n : Int) % 8 = 7) (hn2 : (n : Int) < 256) (s d : ByteArray) (t1 t2 : ByteArray) (s1 : (t1.size : Int) = 8) (s2 : (t2.size : Int) = 16)
    (h1 : Text2 41 #[.int .u64 v, .int .i64 8] t1 0) (h2 : Num2 43 #[.string t1] v 0) (h3 : Text2 45 #[.int .u64 v, .int .i64 16] t2 0) (h4 : Num2 47 #[.string t2] v 0) (y : Int) (hg : Num2 43 #[.string s] y 0) (hpp : Text2 41 #[.int .u64 y, .int .i64 s.size] s 0) (z : Int) (hu : Num2 47 #[.string d] z 0) (hx : Text2 45 #[.int .u64 z, .int .i64 d.size] d 0) (w : World) :
    Calls Try.prog 11 #[.int .u64 v, .int .u8 n, .string s, .string d] w fun e w' => e = .returned (.bool true) ∧ Below w.heap.size w w' := by
  have H1 := Lib.hid h1; clear h1
  have H2 := Lib.hid h2; clear h2
  have H3 := Lib.hid h3; clear h3
  have H4 := Lib.hid h4; clear h4
  have HG := Lib.hid hg; clear hg
  have HU := Lib.hid hu; clear hu
  have HPP := Lib.hid hpp; clear hpp
  have HX := Lib.hid hx; clear hx
  have B0 := Lib.hid (Below.refl w.heap.size w)
  go_enter Try.func11, Try.ntmps11
  go_wp2_with fail
  refine (H1.out _).mono ?_
  rintro e w1 ⟨rfl, hb⟩
  have B1 := Lib.hid (B0.out.trans (hb.mono B0.out.size))
  clear hb B0
  go_wp2_with fail
  refine (H2.out _).mono ?_
  rintro e w2 ⟨rfl, hb⟩
  have B2 := Lib.hid (B1.out.trans (hb.mono B1.out.size))
  clear hb B1
  go_wp2_with fail
  refine (H3.out _).mono ?_
  rintro e w3 ⟨rfl, hb⟩
  have B3 := Lib.hid (B2.out.trans (hb.mono B2.out.size))
  clear hb B2
  go_wp2_with fail
  refine (H4.out _).mono ?_
  rintro e w4 ⟨rfl, hb⟩
  have B4 := Lib.hid (B3.out.trans (hb.mono B3.out.size))
  clear hb B3
  go_wp2_with fail
  refine (HG.out _).mono ?_
  rintro e w5 ⟨rfl, hb⟩
  have B5 := Lib.hid (B4.out.trans (hb.mono B4.out.size))
  clear hb B4
  go_wp2_with fail
  refine (HPP.out _).mono ?_
  rintro e w6 ⟨rfl, hb⟩
  have B6 := Lib.hid (B5.out.trans (hb.mono B5.out.size))
  clear hb B5
  go_wp2_with fail
  refine (HU.out _).mono ?_
  rintro e w7 ⟨rfl, hb⟩
  have B7 := Lib.hid (B6.out.trans (hb.mono B6.out.size))
  clear hb B6
  go_wp2_with fail
  refine (HX.out _).mono ?_
  rintro e w8 ⟨rfl, hb⟩
  have B8 := Lib.hid (B7.out.trans (hb.mono B7.out.size))
  clear hb B7
  go_wp2_with fail
  refine (alive01 _).mono ?_
  rintro e w9 ⟨rfl, hb⟩
  have B9 := Lib.hid (B8.out.trans (hb.mono B8.out.size))
  clear hb B8
  go_wp2_with fail
  go_ret
  exact ⟨rfl, B9.out⟩

set_option maxHeartbeats 1000000 in
theorem wordBack_100 (v n j L : Nat) (hn : (n : Int) % 8 = (j : Int)) (hn2 : (n : Int) < 256) (hj : (j : Int) < 7) (M : Nat) (hM : IntKind.u64.wrap (2 ^ (8 * (1 + j))) = (M : Int)) (hM0 : 0 < (M : Int)) (hL : (v : Int) % (M : Int) = (L : Int)) (s d : ByteArray) (t1 t2 : ByteArray) (s1 : (t1.size : Int) = (1 + (j : Int))) (s2 : (t2.size : Int) = (2 * (1 + (j : Int))))
    (h1 : Text2 41 #[.int .u64 L, .int .i64 (1 + (j : Int))] t1 0) (h2 : Num2 43 #[.string t1] L 0) (h3 : Text2 45 #[.int .u64 L, .int .i64 (2 * (1 + (j : Int)))] t2 0) (h4 : Num2 47 #[.string t2] L 0) (hg : Num2 43 #[.string s] 0 2) (hu : Num2 47 #[.string d] 0 2) (w : World) :
    Calls Try.prog 11 #[.int .u64 v, .int .u8 n, .string s, .string d] w fun e w' => e = .returned (.bool true) ∧ Below w.heap.size w w' := by
  have H1 := Lib.hid h1; clear h1
  have H2 := Lib.hid h2; clear h2
  have H3 := Lib.hid h3; clear h3
  have H4 := Lib.hid h4; clear h4
  have HG := Lib.hid hg; clear hg
  have HU := Lib.hid hu; clear hu
  have B0 := Lib.hid (Below.refl w.heap.size w)
  go_enter Try.func11, Try.ntmps11
  go_wp2_with fail
  refine (H1.out _).mono ?_
  rintro e w1 ⟨rfl, hb⟩
  have B1 := Lib.hid (B0.out.trans (hb.mono B0.out.size))
  clear hb B0
  go_wp2_with fail
  refine (H2.out _).mono ?_
  rintro e w2 ⟨rfl, hb⟩
  have B2 := Lib.hid (B1.out.trans (hb.mono B1.out.size))
  clear hb B1
  go_wp2_with fail
  refine (H3.out _).mono ?_
  rintro e w3 ⟨rfl, hb⟩
  have B3 := Lib.hid (B2.out.trans (hb.mono B2.out.size))
  clear hb B2
  go_wp2_with fail
  refine (H4.out _).mono ?_
  rintro e w4 ⟨rfl, hb⟩
  have B4 := Lib.hid (B3.out.trans (hb.mono B3.out.size))
  clear hb B3
  go_wp2_with fail
  refine (HG.out _).mono ?_
  rintro e w5 ⟨rfl, hb⟩
  have B5 := Lib.hid (B4.out.trans (hb.mono B4.out.size))
  clear hb B4
  go_wp2_with fail
  refine (HU.out _).mono ?_
  rintro e w6 ⟨rfl, hb⟩
  have B6 := Lib.hid (B5.out.trans (hb.mono B5.out.size))
  clear hb B5
  go_wp2_with fail
  refine (alive01 _).mono ?_
  rintro e w7 ⟨rfl, hb⟩
  have B7 := Lib.hid (B6.out.trans (hb.mono B6.out.size))
  clear hb B6
  go_wp2_with fail
  go_ret
  exact ⟨rfl, B7.out⟩

set_option maxHeartbeats 1000000 in
theorem wordBack_101 (v n j L : Nat) (hn : (n : Int) % 8 = (j : Int)) (hn2 : (n : Int) < 256) (hj : (j : Int) < 7) (M : Nat) (hM : IntKind.u64.wrap (2 ^ (8 * (1 + j))) = (M : Int)) (hM0 : 0 < (M : Int)) (hL : (v : Int) % (M : Int) = (L : Int)) (s d : ByteArray) (t1 t2 : ByteArray) (s1 : (t1.size : Int) = (1 + (j : Int))) (s2 : (t2.size : Int) = (2 * (1 + (j : Int))))
    (h1 : Text2 41 #[.int .u64 L, .int .i64 (1 + (j : Int))] t1 0) (h2 : Num2 43 #[.string t1] L 0) (h3 : Text2 45 #[.int .u64 L, .int .i64 (2 * (1 + (j : Int)))] t2 0) (h4 : Num2 47 #[.string t2] L 0) (hg : Num2 43 #[.string s] 0 2) (z : Int) (hu : Num2 47 #[.string d] z 0) (hx : Text2 45 #[.int .u64 z, .int .i64 d.size] d 0) (w : World) :
    Calls Try.prog 11 #[.int .u64 v, .int .u8 n, .string s, .string d] w fun e w' => e = .returned (.bool true) ∧ Below w.heap.size w w' := by
  have H1 := Lib.hid h1; clear h1
  have H2 := Lib.hid h2; clear h2
  have H3 := Lib.hid h3; clear h3
  have H4 := Lib.hid h4; clear h4
  have HG := Lib.hid hg; clear hg
  have HU := Lib.hid hu; clear hu
  have HX := Lib.hid hx; clear hx
  have B0 := Lib.hid (Below.refl w.heap.size w)
  go_enter Try.func11, Try.ntmps11
  go_wp2_with fail
  refine (H1.out _).mono ?_
  rintro e w1 ⟨rfl, hb⟩
  have B1 := Lib.hid (B0.out.trans (hb.mono B0.out.size))
  clear hb B0
  go_wp2_with fail
  refine (H2.out _).mono ?_
  rintro e w2 ⟨rfl, hb⟩
  have B2 := Lib.hid (B1.out.trans (hb.mono B1.out.size))
  clear hb B1
  go_wp2_with fail
  refine (H3.out _).mono ?_
  rintro e w3 ⟨rfl, hb⟩
  have B3 := Lib.hid (B2.out.trans (hb.mono B2.out.size))
  clear hb B2
  go_wp2_with fail
  refine (H4.out _).mono ?_
  rintro e w4 ⟨rfl, hb⟩
  have B4 := Lib.hid (B3.out.trans (hb.mono B3.out.size))
  clear hb B3
  go_wp2_with fail
  refine (HG.out _).mono ?_
  rintro e w5 ⟨rfl, hb⟩
  have B5 := Lib.hid (B4.out.trans (hb.mono B4.out.size))
  clear hb B4
  go_wp2_with fail
  refine (HU.out _).mono ?_
  rintro e w6 ⟨rfl, hb⟩
  have B6 := Lib.hid (B5.out.trans (hb.mono B5.out.size))
  clear hb B5
  go_wp2_with fail
  refine (HX.out _).mono ?_
  rintro e w7 ⟨rfl, hb⟩
  have B7 := Lib.hid (B6.out.trans (hb.mono B6.out.size))
  clear hb B6
  go_wp2_with fail
  refine (alive01 _).mono ?_
  rintro e w8 ⟨rfl, hb⟩
  have B8 := Lib.hid (B7.out.trans (hb.mono B7.out.size))
  clear hb B7
  go_wp2_with fail
  go_ret
  exact ⟨rfl, B8.out⟩

set_option maxHeartbeats 1000000 in
theorem wordBack_110 (v n j L : Nat) (hn : (n : Int) % 8 = (j : Int)) (hn2 : (n : Int) < 256) (hj : (j : Int) < 7) (M : Nat) (hM : IntKind.u64.wrap (2 ^ (8 * (1 + j))) = (M : Int)) (hM0 : 0 < (M : Int)) (hL : (v : Int) % (M : Int) = (L : Int)) (s d : ByteArray) (t1 t2 : ByteArray) (s1 : (t1.size : Int) = (1 + (j : Int))) (s2 : (t2.size : Int) = (2 * (1 + (j : Int))))
    (h1 : Text2 41 #[.int .u64 L, .int .i64 (1 + (j : Int))] t1 0) (h2 : Num2 43 #[.string t1] L 0) (h3 : Text2 45 #[.int .u64 L, .int .i64 (2 * (1 + (j : Int)))] t2 0) (h4 : Num2 47 #[.string t2] L 0) (y : Int) (hg : Num2 43 #[.string s] y 0) (hpp : Text2 41 #[.int .u64 y, .int .i64 s.size] s 0) (hu : Num2 47 #[.string d] 0 2) (w : World) :
    Calls Try.prog 11 #[.int .u64 v, .int .u8 n, .string s, .string d] w fun e w' => e = .returned (.bool true) ∧ Below w.heap.size w w' := by
  have H1 := Lib.hid h1; clear h1
  have H2 := Lib.hid h2; clear h2
  have H3 := Lib.hid h3; clear h3
  have H4 := Lib.hid h4; clear h4
  have HG := Lib.hid hg; clear hg
  have HU := Lib.hid hu; clear hu
  have HPP := Lib.hid hpp; clear hpp
  have B0 := Lib.hid (Below.refl w.heap.size w)
  go_enter Try.func11, Try.ntmps11
  go_wp2_with fail
  refine (H1.out _).mono ?_
  rintro e w1 ⟨rfl, hb⟩
  have B1 := Lib.hid (B0.out.trans (hb.mono B0.out.size))
  clear hb B0
  go_wp2_with fail
  refine (H2.out _).mono ?_
  rintro e w2 ⟨rfl, hb⟩
  have B2 := Lib.hid (B1.out.trans (hb.mono B1.out.size))
  clear hb B1
  go_wp2_with fail
  refine (H3.out _).mono ?_
  rintro e w3 ⟨rfl, hb⟩
  have B3 := Lib.hid (B2.out.trans (hb.mono B2.out.size))
  clear hb B2
  go_wp2_with fail
  refine (H4.out _).mono ?_
  rintro e w4 ⟨rfl, hb⟩
  have B4 := Lib.hid (B3.out.trans (hb.mono B3.out.size))
  clear hb B3
  go_wp2_with fail
  refine (HG.out _).mono ?_
  rintro e w5 ⟨rfl, hb⟩
  have B5 := Lib.hid (B4.out.trans (hb.mono B4.out.size))
  clear hb B4
  go_wp2_with fail
  refine (HPP.out _).mono ?_
  rintro e w6 ⟨rfl, hb⟩
  have B6 := Lib.hid (B5.out.trans (hb.mono B5.out.size))
  clear hb B5
  go_wp2_with fail
  refine (HU.out _).mono ?_
  rintro e w7 ⟨rfl, hb⟩
  have B7 := Lib.hid (B6.out.trans (hb.mono B6.out.size))
  clear hb B6
  go_wp2_with fail
  refine (alive01 _).mono ?_
  rintro e w8 ⟨rfl, hb⟩
  have B8 := Lib.hid (B7.out.trans (hb.mono B7.out.size))
  clear hb B7
  go_wp2_with fail
  go_ret
  exact ⟨rfl, B8.out⟩

set_option maxHeartbeats 1000000 in
theorem wordBack_111 (v n j L : Nat) (hn : (n : Int) % 8 = (j : Int)) (hn2 : (n : Int) < 256) (hj : (j : Int) < 7) (M : Nat) (hM : IntKind.u64.wrap (2 ^ (8 * (1 + j))) = (M : Int)) (hM0 : 0 < (M : Int)) (hL : (v : Int) % (M : Int) = (L : Int)) (s d : ByteArray) (t1 t2 : ByteArray) (s1 : (t1.size : Int) = (1 + (j : Int))) (s2 : (t2.size : Int) = (2 * (1 + (j : Int))))
    (h1 : Text2 41 #[.int .u64 L, .int .i64 (1 + (j : Int))] t1 0) (h2 : Num2 43 #[.string t1] L 0) (h3 : Text2 45 #[.int .u64 L, .int .i64 (2 * (1 + (j : Int)))] t2 0) (h4 : Num2 47 #[.string t2] L 0) (y : Int) (hg : Num2 43 #[.string s] y 0) (hpp : Text2 41 #[.int .u64 y, .int .i64 s.size] s 0) (z : Int) (hu : Num2 47 #[.string d] z 0) (hx : Text2 45 #[.int .u64 z, .int .i64 d.size] d 0) (w : World) :
    Calls Try.prog 11 #[.int .u64 v, .int .u8 n, .string s, .string d] w fun e w' => e = .returned (.bool true) ∧ Below w.heap.size w w' := by
  have H1 := Lib.hid h1; clear h1
  have H2 := Lib.hid h2; clear h2
  have H3 := Lib.hid h3; clear h3
  have H4 := Lib.hid h4; clear h4
  have HG := Lib.hid hg; clear hg
  have HU := Lib.hid hu; clear hu
  have HPP := Lib.hid hpp; clear hpp
  have HX := Lib.hid hx; clear hx
  have B0 := Lib.hid (Below.refl w.heap.size w)
  go_enter Try.func11, Try.ntmps11
  go_wp2_with fail
  refine (H1.out _).mono ?_
  rintro e w1 ⟨rfl, hb⟩
  have B1 := Lib.hid (B0.out.trans (hb.mono B0.out.size))
  clear hb B0
  go_wp2_with fail
  refine (H2.out _).mono ?_
  rintro e w2 ⟨rfl, hb⟩
  have B2 := Lib.hid (B1.out.trans (hb.mono B1.out.size))
  clear hb B1
  go_wp2_with fail
  refine (H3.out _).mono ?_
  rintro e w3 ⟨rfl, hb⟩
  have B3 := Lib.hid (B2.out.trans (hb.mono B2.out.size))
  clear hb B2
  go_wp2_with fail
  refine (H4.out _).mono ?_
  rintro e w4 ⟨rfl, hb⟩
  have B4 := Lib.hid (B3.out.trans (hb.mono B3.out.size))
  clear hb B3
  go_wp2_with fail
  refine (HG.out _).mono ?_
  rintro e w5 ⟨rfl, hb⟩
  have B5 := Lib.hid (B4.out.trans (hb.mono B4.out.size))
  clear hb B4
  go_wp2_with fail
  refine (HPP.out _).mono ?_
  rintro e w6 ⟨rfl, hb⟩
  have B6 := Lib.hid (B5.out.trans (hb.mono B5.out.size))
  clear hb B5
  go_wp2_with fail
  refine (HU.out _).mono ?_
  rintro e w7 ⟨rfl, hb⟩
  have B7 := Lib.hid (B6.out.trans (hb.mono B6.out.size))
  clear hb B6
  go_wp2_with fail
  refine (HX.out _).mono ?_
  rintro e w8 ⟨rfl, hb⟩
  have B8 := Lib.hid (B7.out.trans (hb.mono B7.out.size))
  clear hb B7
  go_wp2_with fail
  refine (alive01 _).mono ?_
  rintro e w9 ⟨rfl, hb⟩
  have B9 := Lib.hid (B8.out.trans (hb.mono B8.out.size))
  clear hb B8
  go_wp2_with fail
  go_ret
  exact ⟨rfl, B9.out⟩

theorem wordBack_walk (x0 : Int) (wf0 : (Lit.int .u64 x0).wf = true) (x1 : Int) (wf1 : (Lit.int .u8 x1).wf = true) (s : ByteArray) (wf2 : s.size ≤ maxLen) (d : ByteArray) (wf3 : d.size ≤ maxLen) (w : World) :
    Calls Try.prog 11 #[.int .u64 x0, .int .u8 x1, .string s, .string d] w fun e w' => e = .returned (.bool true) ∧ Below w.heap.size w w' := by
  obtain ⟨v, rfl, hv⟩ := u64_nat wf0
  obtain ⟨n, rfl, hn⟩ := u8_nat wf1
  have hn2 : (n : Int) < 256 := by omega
  rcases Nat.lt_or_ge (n % 8) 7 with hj | hj
  · obtain ⟨j, hj0⟩ : ∃ j, j = n % 8 := ⟨_, rfl⟩
    have h8 : (2 : Nat) ^ (8 * (1 + j)) ≤ 2 ^ 56 := Nat.pow_le_pow_right (by decide) (by omega)
    rw [show (2 : Nat) ^ 56 = 72057594037927936 from rfl] at h8
    have hpos := Nat.two_pow_pos (8 * (1 + j))
    have eM : IntKind.u64.wrap ((2 : Int) ^ (8 * (1 + j))) = ((2 ^ (8 * (1 + j)) : Nat) : Int) := by
      have e : ((2 : Int) ^ (8 * (1 + j))) = ((2 ^ (8 * (1 + j)) : Nat) : Int) := by rw [Int.natCast_pow]; rfl
      rw [e]
      generalize 2 ^ (8 * (1 + j)) = z at h8
      rw [IntKind.wrap_u64]; omega
    have hL : v % 2 ^ (8 * (1 + j)) < 2 ^ (8 * (1 + j)) := Nat.mod_lt _ hpos
    obtain ⟨L, hLe⟩ : ∃ L, L = v % 2 ^ (8 * (1 + j)) := ⟨_, rfl⟩
    rw [← hLe] at hL
    obtain ⟨t1, z1, p1, p2⟩ := put_get L (1 + j) (by omega) (by omega) (by omega) hL
    obtain ⟨t2, z2, p3, p4⟩ := hex_unhex L (1 + j) (by omega) (by omega) (by omega) hL
    rw [show ((1 + j : Nat) : Int) = 1 + (j : Int) by omega] at p1
    rw [show ((2 * (1 + j) : Nat) : Int) = 2 * (1 + (j : Int)) by omega] at p3
    have hLI : (v : Int) % ((2 ^ (8 * (1 + j)) : Nat) : Int) = (L : Int) := by rw [hLe]; exact (Int.natCast_emod _ _).symm
    have e1 : (n : Int) % 8 = (j : Int) := by omega
    rcases get_put s with hg | ⟨y, hg, hp⟩ <;> rcases unhex_hex d with hu | ⟨z, hu, hx⟩
    · exact wordBack_100 v n j L e1 hn2 (by omega) _ eM (by omega) hLI s d t1 t2 (by omega) (by omega) p1 p2 p3 p4 hg hu w
    · exact wordBack_101 v n j L e1 hn2 (by omega) _ eM (by omega) hLI s d t1 t2 (by omega) (by omega) p1 p2 p3 p4 hg z hu hx w
    · exact wordBack_110 v n j L e1 hn2 (by omega) _ eM (by omega) hLI s d t1 t2 (by omega) (by omega) p1 p2 p3 p4 y hg hp hu w
    · exact wordBack_111 v n j L e1 hn2 (by omega) _ eM (by omega) hLI s d t1 t2 (by omega) (by omega) p1 p2 p3 p4 y hg hp z hu hx w
  · have e1 : (n : Int) % 8 = 7 := by omega
    have hf : v < 2 ^ (8 * 8) := by rw [show (2 : Nat) ^ (8 * 8) = 18446744073709551616 from rfl]; exact hv
    obtain ⟨t1, z1, p1, p2⟩ := put_get v 8 (by omega) (by omega) hv hf
    obtain ⟨t2, z2, p3, p4⟩ := hex_unhex v 8 (by omega) (by omega) hv hf
    rcases get_put s with hg | ⟨y, hg, hp⟩ <;> rcases unhex_hex d with hu | ⟨z, hu, hx⟩
    · exact wordBack_000 v n e1 hn2 s d t1 t2 (by omega) (by omega) p1 p2 p3 p4 hg hu w
    · exact wordBack_001 v n e1 hn2 s d t1 t2 (by omega) (by omega) p1 p2 p3 p4 hg z hu hx w
    · exact wordBack_010 v n e1 hn2 s d t1 t2 (by omega) (by omega) p1 p2 p3 p4 y hg hp hu w
    · exact wordBack_011 v n e1 hn2 s d t1 t2 (by omega) (by omega) p1 p2 p3 p4 y hg hp z hu hx w

end Go.Proofs.Ytafialodjnjihaa
