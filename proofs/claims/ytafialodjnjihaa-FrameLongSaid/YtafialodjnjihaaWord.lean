/- The words: one contract for each function of word and of its reference. Conditions: sizes within their kinds. -/
import Derived.Test.YtafialodjnjihaaKit
import Derived.Test.YtafialodjnjihaaBits
import Derived.Test.YtafialodjnjihaaStr
import Derived.Test.YtafialodjnjihaaProg
import Derived.Deep.QuietTactic
import Derived.BigQuiet
import Derived.Lib.ConvBytes
import Derived.Lib.AtoiErrMem
namespace Go.Proofs.Ytafialodjnjihaa
open Go Go.RowKit
set_option maxRecDepth 100000
set_option linter.unusedVariables false


theorem int_div_eq_zero (v k : Nat) : ((v : Int) / 2 ^ k == 0) = decide (v < 2 ^ k) := by
  have e : ((v : Int) / 2 ^ k) = ((v / 2 ^ k : Nat) : Int) := by simp
  rw [e]
  by_cases h : v < 2 ^ k
  · have : v / 2 ^ k = 0 := Nat.div_eq_of_lt h
    rw [this]; simp [h]
  · have hp : 0 < 2 ^ k := Nat.two_pow_pos k
    have : 0 < v / 2 ^ k := Nat.div_pos (by omega) hp
    rw [decide_eq_false h]
    simp; omega

theorem fits_lt (v n b : Nat) (w : World) (h1 : (n : Int) * b < 64) (hn : (n : Int) ≤ 16) (hb : (b : Int) ≤ 8) (hv : (v : Int) < 18446744073709551616) :
    Calls Try.prog 67 #[.int .u64 v, .int .i64 n, .int .i64 b] w fun e w' => e = .returned (.bool (decide (v < 2 ^ (n * b)))) ∧ w = w' := by
  have h0 : (0 : Int) ≤ (n : Int) * b := Int.mul_nonneg (by omega) (by omega)
  have hd : decide ((64 : Int) ≤ (n : Int) * b) = false := by simp; omega
  go_enter Try.func67, Try.ntmps67
  go_wp2
  go_ret
  exact ⟨by rw [← int_div_eq_zero]; rfl, rfl⟩

theorem fits_ge (v n b : Nat) (w : World) (h1 : (n : Int) * b = 64) (hn : (n : Int) ≤ 16) (hb : (b : Int) ≤ 8) (hv : (v : Int) < 18446744073709551616) :
    Calls Try.prog 67 #[.int .u64 v, .int .i64 n, .int .i64 b] w fun e w' => e = .returned (.bool (decide (v < 2 ^ (n * b)))) ∧ w = w' := by
  have hd : decide ((64 : Int) ≤ (n : Int) * b) = true := by simp; omega
  have hr : decide (v < 2 ^ (n * b)) = true := by
    have : n * b = 64 := by exact_mod_cast h1
    rw [this]; simp; omega
  have HR := Lib.hid hr
  have h2 : (0 : Int) ≤ (n : Int) * b := by omega
  have h3 : (n : Int) * b ≤ 64 := by omega
  clear h1 hr
  go_enter Try.func67, Try.ntmps67
  go_wp2
  go_ret
  exact ⟨by rw [HR.out]; rfl, rfl⟩

theorem fits_any (v n b : Nat) (w : World) (h1 : n * b ≤ 64) (hn : n ≤ 16) (hb : b ≤ 8) (hv : v < 18446744073709551616) :
    Calls Try.prog 67 #[.int .u64 v, .int .i64 n, .int .i64 b] w fun e w' => e = .returned (.bool (decide (v < 2 ^ (n * b)))) ∧ w = w' := by
  by_cases h : n * b < 64
  · exact fits_lt v n b w (by exact_mod_cast h) (by omega) (by omega) (by omega)
  · exact fits_ge v n b w (by have : n * b = 64 := by omega
                              exact_mod_cast this) (by omega) (by omega) (by omega)
/-- the bytes of a number, the lowest first -/
def le (n v : Nat) : List UInt8 := (List.range n).map fun k => UInt8.ofNat (v / 2 ^ (8 * k))
/-- what the row holds when k bytes are put -/
def leRow (n v k : Nat) : List Value := (le k v).map byteV ++ List.replicate (n - k) (.int .u8 0)

theorem made_one (z : Value) (n : Nat) : (madeCells #[z] n).toList = List.replicate n z := by
  apply List.ext_getElem?
  intro i
  by_cases h : i < n
  · simp [madeCells, Nat.mod_one, h]
  · simp [madeCells, Nat.mod_one, h]
theorem leRow_at (n v k : Nat) (h : k < n) : (leRow n v k)[k]? = some (.int .u8 0) := by
  unfold leRow
  rw [List.getElem?_append_right (by simp [le]), List.getElem?_replicate]
  simp [le]; omega
theorem byte_of (v k : Nat) : ((v : Int) / 2 ^ (8 * k) % 256) = ((UInt8.ofNat (v / 2 ^ (8 * k))).toNat : Int) := by
  simp
theorem leRow_full (n v : Nat) : leRow n v n = (le n v).map byteV := by simp [leRow]
theorem leRow_len (n v k : Nat) (h : k ≤ n) : (leRow n v k).length = n * 1 := by simp [leRow, le]; omega
theorem leRow_zero (n v : Nat) : leRow n v 0 = List.replicate n (.int .u8 0) := by simp [leRow, le]
theorem le_succ (k v : Nat) : le (k + 1) v = le k v ++ [UInt8.ofNat (v / 2 ^ (8 * k))] := by simp [le, List.range_succ]
theorem le_len (k v : Nat) : (le k v).length = k := by simp [le]
theorem leRow_set (n v k : Nat) (h : k < n) : (leRow n v k).set k (.int .u8 (UInt8.ofNat (v / 2 ^ (8 * k))).toNat) = leRow n v (k + 1) := by
  unfold leRow
  rw [List.set_append_right _ _ (by simp [le_len])]
  rw [le_succ, List.map_append, List.append_assoc]
  congr 1
  obtain ⟨m, hm⟩ : ∃ m, n - k = m + 1 := ⟨n - k - 1, by omega⟩
  rw [hm, show n - (k + 1) = m by omega]
  simp [le_len, List.replicate_succ, byteV]

set_option maxHeartbeats 1000000 in
theorem put_ok (v n : Nat) (w : World) (h1 : 1 ≤ n) (h8 : n ≤ 8) (hv : v < 18446744073709551616) (hf : v < 2 ^ (n * 8)) :
    Calls Try.prog 41 #[.int .u64 v, .int .i64 n] w fun e w' => e = .returned (.tuple #[.string ⟨(le n v).toArray⟩, .int .i64 0]) ∧ Below w.heap.size w w' := by
  obtain ⟨i0, hi, hz0, hz1, hz2⟩ := info_parts info5
  have hvI : (v : Int) < 18446744073709551616 := by omega
  have FT := Lib.hid (fits_any v n 8 w (by omega) (by omega) (by omega) hv)
  have HF := Lib.hid (decide_eq_true hf)
  have t1 : ¬ (n : Int) < 1 := by omega
  have t2 : ¬ (8 : Int) < (n : Int) := by omega
  clear hf hv h1 h8
  go_enter Try.func41, Try.ntmps41
  go_wp2_with fail
  refine FT.out.mono ?_
  rintro e w' ⟨rfl, rfl⟩
  rw [HF.out]
  clear FT HF
  go_wp2_with (first | (at_make; refine wpList_make_full _ rfl (.tmp 20) (.tmp 20) 24 rfl w.heap.size 5 i0 (.int .u8 0) 1 Try.underlying24 hi hz0 hz1 .i64 .i64 n n n rfl rfl rfl rfl ?c1 ?c2 ?c3 ?_))
  case c1 => rw [hz2]; omega
  case c2 => unfold maxLen; omega
  case c3 => exact Nat.le_refl _
  intro w1 hown hg
  have O1 : Hid (w1.ownsRow w.heap.size 5 1 (.slice (some ⟨w.heap.size, 0, none⟩) n n) n (leRow n v 0)) := Lib.hid (by
    have e : (madeCells #[Value.int IntKind.u8 0] n).toList = leRow n v 0 := by
      rw [leRow_zero, made_one]
    rw [← e]; exact hown)
  have B1 : Hid (Below w.heap.size w w1) := Lib.hid ((Below.refl _ _).grown hg (Nat.le_refl _) (fun k hk => by cases hk))
  clear hown hg hi hz0 hz1 hz2
  go_wp2_with fail
  go_loopw [24] (fun i wr => ∃ k : Nat, k ≤ n ∧ i = .int .i64 k ∧ wr.ownsRow w.heap.size 5 1 (.slice (some ⟨w.heap.size, 0, none⟩) n n) n (leRow n v k) ∧ Below w.heap.size w wr) (fun i _ => n - (intOf i).toNat)
  case atStart => exact ⟨0, Nat.zero_le _, rfl, O1.out, B1.out⟩
  case round =>
    obtain ⟨k, hk, rfl, hown, hbel⟩ := hrel
    have O := Lib.hid hown
    have B := Lib.hid hbel
    clear O1 B1
    by_cases hlt : k < n
    · have hc := (hown.cellAt k (by omega))
      have hfz := hown.frozenAt k
      rw [leRow_at n v k hlt] at hc
      have hkI : (k : Int) < n := by omega
      clear hown hbel
      go_wp2_with fail
      go_roundw
      case rel =>
        refine ⟨k + 1, hlt, by go_num, ?_, ?_⟩
        · rw [byte_of, ← leRow_set n v k hlt]
          exact (O.out.stored k _).1
        · exact B.out.setCell (Nat.le_refl _) _
      case measure => simp [intOf]; omega
    · obtain rfl : n = k := by omega
      have hcv := run_convert_bytes_back (P := Try.prog) wr 24 9 5 ⟨w.heap.size, 0, none⟩ n (le n v) Try.underlying24 Try.underlying5 Try.underlying9 (fun j hj => by
        have hj' : j < n := by simpa [le_len] using hj
        have := O.out.cellAt j (by omega)
        rw [leRow_full] at this
        simp only [Addr.add]
        rw [show (if j = 0 then (⟨w.heap.size, 0, none⟩ : Addr) else ⟨w.heap.size, 0 + j, none⟩) = ⟨w.heap.size, j, none⟩ by split <;> simp_all, this]
        simp [hj, byteV])
      rw [le_len] at hcv
      clear hown hbel hk
      go_wp2_with fail
      go_ret2
      exact ⟨rfl, B.out⟩

theorem put_long (v n : Nat) (w : World) (h1 : 1 ≤ n) (h8 : n ≤ 8) (hv : v < 18446744073709551616) (hf : ¬ v < 2 ^ (n * 8)) :
    Calls Try.prog 41 #[.int .u64 v, .int .i64 n] w fun e w' => e = .returned (.tuple #[.string ⟨#[]⟩, .int .i64 5]) ∧ w = w' := by
  have FT := Lib.hid (fits_any v n 8 w (by omega) (by omega) (by omega) hv)
  have HF := Lib.hid (decide_eq_false hf)
  have t1 : ¬ (n : Int) < 1 := by omega
  have t2 : ¬ (8 : Int) < (n : Int) := by omega
  clear hf hv h1 h8
  go_enter Try.func41, Try.ntmps41
  go_wp2_with fail
  refine FT.out.mono ?_
  rintro e w' ⟨rfl, rfl⟩
  rw [HF.out]
  clear FT HF
  go_wp2_with fail
  go_ret2
  exact ⟨rfl, rfl⟩

theorem put_arg (v n : Int) (w : World) (h : n < 1 ∨ 8 < n) :
    Calls Try.prog 41 #[.int .u64 v, .int .i64 n] w fun e w' => e = .returned (.tuple #[.string ⟨#[]⟩, .int .i64 2]) ∧ w = w' := by
  rcases h with h | h
  · go_enter Try.func41, Try.ntmps41
    go_wp2_with fail
    go_ret2
    exact ⟨rfl, rfl⟩
  · have t1 : ¬ n < 1 := by omega
    go_enter Try.func41, Try.ntmps41
    go_wp2_with fail
    go_ret2
    exact ⟨rfl, rfl⟩
/-- the number whose bytes they are, the lowest first -/
def ofLe : List UInt8 → Nat
  | [] => 0
  | b :: l => b.toNat + 256 * ofLe l

theorem ofLe_lt (l : List UInt8) : ofLe l < 2 ^ (8 * l.length) := by
  induction l with
  | nil => simp [ofLe]
  | cons b l ih =>
    have hb : b.toNat < 256 := b.toNat_lt
    rw [ofLe, List.length_cons, Nat.mul_succ, Nat.pow_add]
    have : (2 : Nat) ^ 8 = 256 := rfl
    omega
theorem ofLe_snoc (l : List UInt8) (b : UInt8) : ofLe (l ++ [b]) = ofLe l + b.toNat * 2 ^ (8 * l.length) := by
  induction l with
  | nil => simp [ofLe]
  | cons a l ih =>
    simp only [List.cons_append, ofLe, ih, List.length_cons, Nat.mul_succ]
    have e : (2 : Nat) ^ (8 * l.length + 8) = 256 * 2 ^ (8 * l.length) := by rw [Nat.pow_add, Nat.mul_comm]
    rw [e, Nat.mul_add, Nat.add_assoc, Nat.mul_left_comm]
theorem get_step (l : List UInt8) (b : UInt8) (h : l.length < 8) :
    bits BinOp.or IntKind.u64 (↑(ofLe l)) (IntKind.u64.wrap (IntKind.u64.wrap ↑b.toNat * 2 ^ (8 * l.length))) = ((ofLe (l ++ [b]) : Nat) : Int) := by
  have hb : b.toNat < 256 := b.toNat_lt
  have hl := ofLe_lt l
  have h1 : IntKind.u64.wrap (b.toNat : Int) = (b.toNat : Int) := by rw [IntKind.wrap_u64]; omega
  have hp : b.toNat * 2 ^ (8 * l.length) < 2 ^ 64 := by
    have e : (2 : Nat) ^ 64 = 2 ^ (64 - 8 * l.length) * 2 ^ (8 * l.length) := by rw [← Nat.pow_add]; congr 1; omega
    rw [e]
    refine Nat.mul_lt_mul_of_pos_right (Nat.lt_of_lt_of_le hb ?_) (Nat.two_pow_pos _)
    have : (2 : Nat) ^ 8 ≤ 2 ^ (64 - 8 * l.length) := Nat.pow_le_pow_right (by decide) (by omega)
    omega
  have h2 : IntKind.u64.wrap ((b.toNat : Int) * 2 ^ (8 * l.length)) = ((b.toNat * 2 ^ (8 * l.length) : Nat) : Int) := by
    rw [IntKind.wrap_u64]
    have : ((b.toNat * 2 ^ (8 * l.length) : Nat) : Int) = (b.toNat : Int) * 2 ^ (8 * l.length) := by rw [Int.natCast_mul, Int.natCast_pow]; rfl
    rw [← this]
    generalize b.toNat * 2 ^ (8 * l.length) = z at hp
    rw [show (2 : Nat) ^ 64 = 18446744073709551616 from rfl] at hp
    omega
  have hl' : ofLe l < 2 ^ 64 := Nat.lt_of_lt_of_le hl (Nat.pow_le_pow_right (by decide) (by omega))
  rw [h1, h2, or_u64 _ _ (by omega) (by omega), or_add _ _ _ hl, ofLe_snoc]

set_option maxHeartbeats 1000000 in
theorem get_ok (s : ByteArray) (w : World) (h1 : 1 ≤ s.size) (h8 : s.size ≤ 8) :
    Calls Try.prog 43 #[.string s] w fun e w' => e = .returned (.tuple #[.int .u64 (ofLe s.data.toList), .int .i64 0]) ∧ w = w' := by
  have t1 : ¬ (s.size : Int) < 1 := by omega
  have t2 : ¬ (8 : Int) < (s.size : Int) := by omega
  clear h1 h8
  go_enter Try.func43, Try.ntmps43
  go_wp2_with fail
  go_loop [2, 15] (fun v i => ∃ k : Nat, k ≤ s.size ∧ i = .int .i64 k ∧ v = .int .u64 (ofLe (s.data.toList.take k))) (fun _ i => s.size - (intOf i).toNat)
  case atStart => exact ⟨0, Nat.zero_le _, rfl, rfl⟩
  case round =>
    obtain ⟨k, hk, rfl, rfl⟩ := hrel
    by_cases hlt : k < s.size
    · go_wp2_with fail
      go_round
      case rel =>
        refine ⟨k + 1, hlt, by go_num, ?_⟩
        have h := get_step (s.data.toList.take k) s[k] (by rw [List.length_take]; omega)
        rw [← take_snoc s k hlt] at h
        have hl : (s.data.toList.take k).length = k := by rw [List.length_take]; have : s.data.toList.length = s.size := by simp
                                                          omega
        rw [hl] at h
        rw [← h]
      case measure => simp [intOf]; omega
    · obtain rfl : k = s.size := by omega
      go_wp2_with fail
      go_ret2
      exact ⟨by rw [List.take_of_length_le (by simp)]; rfl, rfl⟩

theorem get_arg (s : ByteArray) (w : World) (h : s.size < 1 ∨ 8 < s.size) :
    Calls Try.prog 43 #[.string s] w fun e w' => e = .returned (.tuple #[.int .u64 0, .int .i64 2]) ∧ w = w' := by
  rcases h with h | h
  · have t1 : (s.size : Int) < 1 := by omega
    clear h
    go_enter Try.func43, Try.ntmps43
    go_wp2_with fail
    go_ret2
    exact ⟨rfl, rfl⟩
  · have t1 : ¬ (s.size : Int) < 1 := by omega
    have t2 : (8 : Int) < (s.size : Int) := by omega
    clear h
    go_enter Try.func43, Try.ntmps43
    go_wp2_with fail
    go_ret2
    exact ⟨rfl, rfl⟩
/-- a digit to the base 16 -/
def hexd (d : Nat) : UInt8 := UInt8.ofNat (if d < 10 then 48 + d else 87 + d)
/-- the first m of n digits, the highest first -/
def hexP (n v m : Nat) : List UInt8 := (List.range m).map fun j => hexd (v / 2 ^ (4 * (n - 1 - j)) % 16)
def hex (n v : Nat) : List UInt8 := hexP n v n

theorem hexd_nat (d : Nat) (h : d < 16) : (hexd d).toNat = if d < 10 then 48 + d else 87 + d := by
  unfold hexd; split <;> simp <;> omega
theorem hexd_lt (d : Nat) (h : d < 16) : (hexd d).toNat < 128 := by
  rw [hexd_nat d h]; split <;> omega
theorem hexP_len (n v m : Nat) : (hexP n v m).length = m := by simp [hexP]
theorem hexP_succ (n v m : Nat) : hexP n v (m + 1) = hexP n v m ++ [hexd (v / 2 ^ (4 * (n - 1 - m)) % 16)] := by simp [hexP, List.range_succ]
theorem hexP_lt (n v m : Nat) : ∀ b ∈ hexP n v m, b.toNat < 128 := by
  intro b hb
  obtain ⟨j, _, rfl⟩ := List.mem_map.1 hb
  exact hexd_lt _ (by omega)
theorem and15_u64 (x : Nat) (h : x < 18446744073709551616) : bits BinOp.and IntKind.u64 (x : Int) 15 = ((x % 16 : Nat) : Int) := by
  have := and_u64 x 15 h (by decide)
  rw [show x &&& 15 = x % 16 from Nat.and_two_pow_sub_one_eq_mod x 4] at this
  exact this

set_option maxHeartbeats 1000000 in
theorem hex_ok (v n : Nat) (w : World) (h1 : 1 ≤ n) (h16 : n ≤ 16) (hv : v < 18446744073709551616) (hf : v < 2 ^ (n * 4)) :
    Calls Try.prog 45 #[.int .u64 v, .int .i64 n] w fun e w' => e = .returned (.tuple #[.string ⟨(hex n v).toArray⟩, .int .i64 0]) ∧ Below w.heap.size w w' := by
  obtain ⟨i0, hi, hz0, hz1, hz2⟩ := info_parts info21
  have HV := Lib.hid hv
  have FT := Lib.hid (fits_any v n 4 w (by omega) (by omega) (by omega) hv)
  have HF := Lib.hid (decide_eq_true hf)
  have t1 : ¬ (n : Int) < 1 := by omega
  have t2 : ¬ (16 : Int) < (n : Int) := by omega
  clear hf hv h1 h16
  go_enter Try.func45, Try.ntmps45
  go_wp2_with fail
  refine FT.out.mono ?_
  rintro e w' ⟨rfl, rfl⟩
  rw [HF.out]
  clear FT HF
  go_wp2_with fail
  go_loopw [6, 7] (fun r i wr => ∃ m j : Nat, n = m + j ∧ i = .int .i64 ((j : Int) - 1) ∧ wr.ownsRow w.heap.size 21 1 r (hexP n v m).length ((hexP n v m).map runeV) ∧ Below w.heap.size w wr) (fun _ i _ => (intOf i + 1).toNat)
  case atStart => exact ⟨0, n, by omega, rfl, by simpa [hexP] using World.ownsRow_nil _ _ _ _, Below.refl _ _⟩
  case round =>
    obtain ⟨m, j, hm, rfl, hown, hbel⟩ := hrel
    have O := Lib.hid hown
    have B := Lib.hid hbel
    have HM := Lib.hid hm
    have hsz := hbel.size
    clear hown hbel hm
    cases j with
    | succ q =>
      rw [show ((q + 1 : Nat) : Int) - 1 = q by omega]
      have q1 : (q : Int) < 16 := by have := HM.out; omega
      obtain ⟨D, hD⟩ : ∃ D, D = v / 2 ^ (4 * q) % 16 := ⟨_, rfl⟩
      have e1 : bits BinOp.and IntKind.u64 ((v : Int) / 2 ^ (4 * q)) 15 = (D : Int) := by
        have e : ((v : Int) / 2 ^ (4 * q)) = ((v / 2 ^ (4 * q) : Nat) : Int) := by simp
        rw [e, and15_u64 _ (Nat.lt_of_le_of_lt (Nat.div_le_self _ _) HV.out), ← hD]
      have hP : Hid (hexP n v (m + 1) = hexP n v m ++ [hexd D]) := by
        rw [hexP_succ, hD, show n - 1 - m = q by have := HM.out; omega]; exact Lib.hid rfl
      have hD16 : (D : Int) < 16 := by omega
      have hDn : D < 16 := by omega
      have HDD := Lib.hid hD
      clear hD
      have hn : Hid (n = m + 1 + q) := Lib.hid (by have := HM.out; omega)
      have LN := Lib.hid (hexP_len n v m)
      by_cases h9 : (9 : Int) < (D : Int)
      · have hd : (runeV (hexd D)) = .int .i32 (48 + ((D : Int) + 39)) := by
          unfold runeV; rw [hexd_nat D hDn, if_neg (by omega)]; congr 1; omega
        have HDV := Lib.hid hd
        clear hd
        go_wp2_with (first | (at_builtin; refine append_one wr rfl (.tmp 37) (.tmp 40) 91 rfl w.heap.size 21 i0 (.int .i32 0) 1 4 Try.underlying91 hi hz0 hz1 hz2 rfl (by decide) _ _ _ rfl O.out [.int .i32 (48 + ((D : Int) + 39))] rfl rfl ?c2 ?c3 ?c4 hsz ?_ rfl))
        case c2 => first | (intro u hu; simp at hu; subst hu; rfl) | rfl
        case c3 => rw [LN.out]; unfold maxLen; have := HM.out; omega
        case c4 => rw [LN.out]; have := HM.out; omega
        intro v1 w1 hown1 hbel1 _
        have O1 : Hid (w1.ownsRow w.heap.size 21 1 v1 (hexP n v (m + 1)).length ((hexP n v (m + 1)).map runeV)) := Lib.hid (by
          rw [hP.out, List.length_append, List.map_append, List.map_cons, HDV.out]; exact hown1)
        have B1 := Lib.hid (B.out.trans hbel1)
        clear hown1 hbel1
        go_wp2_with fail
        go_roundw
        case rel => exact ⟨m + 1, q, hn.out, rfl, O1.out, B1.out⟩
        case measure => simp [intOf]
      · have hd : (runeV (hexd D)) = .int .i32 (48 + (D : Int)) := by
          unfold runeV; rw [hexd_nat D hDn, if_pos (by omega)]; congr 1
        have HDV := Lib.hid hd
        clear hd
        go_wp2_with (first | (at_builtin; refine append_one wr rfl (.tmp 37) (.tmp 40) 91 rfl w.heap.size 21 i0 (.int .i32 0) 1 4 Try.underlying91 hi hz0 hz1 hz2 rfl (by decide) _ _ _ rfl O.out [.int .i32 (48 + (D : Int))] rfl rfl ?d2 ?d3 ?d4 hsz ?_ rfl))
        case d2 => first | (intro u hu; simp at hu; subst hu; rfl) | rfl
        case d3 => rw [LN.out]; unfold maxLen; have := HM.out; omega
        case d4 => rw [LN.out]; have := HM.out; omega
        intro v1 w1 hown1 hbel1 _
        have O1 : Hid (w1.ownsRow w.heap.size 21 1 v1 (hexP n v (m + 1)).length ((hexP n v (m + 1)).map runeV)) := Lib.hid (by
          rw [hP.out, List.length_append, List.map_append, List.map_cons, HDV.out]; exact hown1)
        have B1 := Lib.hid (B.out.trans hbel1)
        clear hown1 hbel1
        go_wp2_with fail
        go_roundw
        case rel => exact ⟨m + 1, q, hn.out, rfl, O1.out, B1.out⟩
        case measure => simp [intOf]
    | zero =>
      obtain rfl : n = m := by have := HM.out; omega
      have hcv := str_of_runes (hexP n v n) (hexP_lt n v n) O.out
      clear hsz
      go_wp2_with fail
      go_ret2
      exact ⟨rfl, B.out⟩

theorem hex_long (v n : Nat) (w : World) (h1 : 1 ≤ n) (h16 : n ≤ 16) (hv : v < 18446744073709551616) (hf : ¬ v < 2 ^ (n * 4)) :
    Calls Try.prog 45 #[.int .u64 v, .int .i64 n] w fun e w' => e = .returned (.tuple #[.string ⟨#[]⟩, .int .i64 5]) ∧ w = w' := by
  have FT := Lib.hid (fits_any v n 4 w (by omega) (by omega) (by omega) hv)
  have HF := Lib.hid (decide_eq_false hf)
  have t1 : ¬ (n : Int) < 1 := by omega
  have t2 : ¬ (16 : Int) < (n : Int) := by omega
  clear hf hv h1 h16
  go_enter Try.func45, Try.ntmps45
  go_wp2_with fail
  refine FT.out.mono ?_
  rintro e w' ⟨rfl, rfl⟩
  rw [HF.out]
  clear FT HF
  go_wp2_with fail
  go_ret2
  exact ⟨rfl, rfl⟩

theorem hex_arg (v n : Int) (w : World) (h : n < 1 ∨ 16 < n) :
    Calls Try.prog 45 #[.int .u64 v, .int .i64 n] w fun e w' => e = .returned (.tuple #[.string ⟨#[]⟩, .int .i64 2]) ∧ w = w' := by
  rcases h with h | h
  · go_enter Try.func45, Try.ntmps45
    go_wp2_with fail
    go_ret2
    exact ⟨rfl, rfl⟩
  · have t1 : ¬ n < 1 := by omega
    go_enter Try.func45, Try.ntmps45
    go_wp2_with fail
    go_ret2
    exact ⟨rfl, rfl⟩

/-- what a digit to the base 16 is -/
def dig (c : UInt8) : Option Nat := if 48 ≤ c.toNat ∧ c.toNat ≤ 57 then some (c.toNat - 48) else if 97 ≤ c.toNat ∧ c.toNat ≤ 102 then some (c.toNat - 87) else none
/-- digits read on from a number -/
def unh : Nat → List UInt8 → Option Nat
  | a, [] => some a
  | a, c :: l => match dig c with | some d => unh (16 * a + d) l | none => none
def unhR (l : List UInt8) : Nat × Nat := match unh 0 l with | some v => (v, 0) | none => (0, 2)

theorem dig_lt {c : UInt8} {d : Nat} (h : dig c = some d) : d < 16 := by
  unfold dig at h; split at h
  · simp at h; omega
  · split at h
    · simp at h; omega
    · cases h
theorem unhR_some {l : List UInt8} {v : Nat} (h : unh 0 l = some v) : unhR l = (v, 0) := by unfold unhR; rw [h]
theorem unhR_none {l : List UInt8} (h : unh 0 l = none) : unhR l = (0, 2) := by unfold unhR; rw [h]

theorem unhex_step (a k : Nat) (c : UInt8) (d : Nat) (hk : k < 16) (ha : a < 2 ^ (4 * k)) (hd : dig c = some d) :
    bits BinOp.or IntKind.u64 (IntKind.u64.wrap (↑a * 16)) (d : Int) = ((16 * a + d : Nat) : Int) ∧ 16 * a + d < 2 ^ (4 * (k + 1)) := by
  have h16 := dig_lt hd
  have e : (2 : Nat) ^ (4 * (k + 1)) = 16 * 2 ^ (4 * k) := by rw [Nat.mul_succ, Nat.pow_add, Nat.mul_comm]
  have hlt : 16 * a + d < 2 ^ (4 * (k + 1)) := by rw [e]; omega
  have h64 : (2 : Nat) ^ (4 * (k + 1)) ≤ 2 ^ 64 := Nat.pow_le_pow_right (by decide) (by omega)
  rw [show (2 : Nat) ^ 64 = 18446744073709551616 from rfl] at h64
  have hw : IntKind.u64.wrap ((a : Int) * 16) = ((a * 16 : Nat) : Int) := by rw [IntKind.wrap_u64]; omega
  refine ⟨?_, hlt⟩
  rw [hw, or_u64 _ _ (by omega) (by omega), Nat.or_comm, show a * 16 = a * 2 ^ 4 from rfl, or_add d a 4 (by omega)]
  congr 1; omega

set_option maxHeartbeats 1000000 in
theorem unhex_ok (s : ByteArray) (w : World) (h1 : 1 ≤ s.size) (h16 : s.size ≤ 16) :
    Calls Try.prog 47 #[.string s] w fun e w' => e = .returned (.tuple #[.int .u64 (unhR s.data.toList).1, .int .i64 (unhR s.data.toList).2]) ∧ Below w.heap.size w w' := by
  have t1 : ¬ (s.size : Int) < 1 := by omega
  have t2 : ¬ (16 : Int) < (s.size : Int) := by omega
  have hcv := Lib.run_convert_string_bytes (P := Try.prog) w 9 24 5 s Try.underlying9 Try.underlying24 Try.underlying5
  have HB := Lib.hid (Lib.bytesWorld_below w 5 s)
  have HC := Lib.hid (Lib.bytesWorld_cell w 5 s)
  generalize Lib.bytesWorld w 5 s = wb at *
  generalize grownCap w s.size 0 5 = cap at *
  clear h1 h16
  go_enter Try.func47, Try.ntmps47
  go_wp2_with fail
  go_loop [2, 17] (fun v i => ∃ k a : Nat, k ≤ s.size ∧ i = .int .i64 k ∧ v = .int .u64 a ∧ a < 2 ^ (4 * k) ∧ unh a (s.data.toList.drop k) = unh 0 s.data.toList) (fun _ i => s.size - (intOf i).toNat)
  case atStart => exact ⟨0, 0, Nat.zero_le _, rfl, rfl, by simp, rfl⟩
  case round =>
    obtain ⟨k, a, hk, rfl, rfl, ha, hu⟩ := hrel
    have HA := Lib.hid ha
    have HU := Lib.hid hu
    clear ha hu
    by_cases hlt : k < s.size
    · have hc := HC.out k hlt
      obtain ⟨c, hcc⟩ : ∃ c, c = s[k] := ⟨_, rfl⟩
      have hg : s.data.toList.getD k 0 = c := by rw [hcc]; simp [hlt]; rfl
      rw [hg] at hc
      have hc256 : (c.toNat : Int) < 256 := by have := c.toNat_lt; omega
      have DC : Hid (s.data.toList.drop k = c :: s.data.toList.drop (k + 1)) := by rw [hcc]; exact drop_cons s k hlt
      have k16 : (k : Int) < 16 := by omega
      clear hcc hg
      by_cases g1 : 48 ≤ c.toNat ∧ c.toNat ≤ 57
      · have hd : dig c = some (c.toNat - 48) := by unfold dig; rw [if_pos g1]
        have ST := Lib.hid (unhex_step a k c _ (by omega) HA.out hd)
        have e : ((c.toNat : Int) - 48) = ((c.toNat - 48 : Nat) : Int) := by omega
        have HE := Lib.hid e
        have b1 : decide ((48 : Int) ≤ (c.toNat : Int)) = true := by simp; omega
        have b2 : decide ((c.toNat : Int) ≤ 57) = true := by simp; omega
        have g2 : (48 : Int) ≤ (c.toNat : Int) := by omega
        have NX : Hid (unh (16 * a + (c.toNat - 48)) (s.data.toList.drop (k + 1)) = unh 0 s.data.toList) := by
          have := HU.out
          rw [DC.out, unh, hd] at this
          exact this
        clear hd e g1
        go_wp2_with fail
        go_round
        case rel => exact ⟨k + 1, 16 * a + (c.toNat - 48), hlt, by go_num, by rw [HE.out, ST.out.1], ST.out.2, NX.out⟩
        case measure => simp [intOf]; omega
      · by_cases g4 : 97 ≤ c.toNat ∧ c.toNat ≤ 102
        · have hd : dig c = some (c.toNat - 87) := by unfold dig; rw [if_neg (by omega), if_pos g4]
          have ST := Lib.hid (unhex_step a k c _ (by omega) HA.out hd)
          have e : ((c.toNat : Int) - 97 + 10) = ((c.toNat - 87 : Nat) : Int) := by omega
          have HE := Lib.hid e
          have b1 : decide ((48 : Int) ≤ (c.toNat : Int)) = true := by simp; omega
          have b2 : decide ((c.toNat : Int) ≤ 57) = false := by simp; omega
          have b3 : decide ((97 : Int) ≤ (c.toNat : Int)) = true := by simp; omega
          have b4 : decide ((c.toNat : Int) ≤ 102) = true := by simp; omega
          have g2 : (97 : Int) ≤ (c.toNat : Int) := by omega
          have g3 : (c.toNat : Int) ≤ 102 := by omega
          have NX : Hid (unh (16 * a + (c.toNat - 87)) (s.data.toList.drop (k + 1)) = unh 0 s.data.toList) := by
            have := HU.out
            rw [DC.out, unh, hd] at this
            exact this
          clear hd e g1 g4
          go_wp2_with fail
          go_round
          case rel => exact ⟨k + 1, 16 * a + (c.toNat - 87), hlt, by go_num, by rw [HE.out, ST.out.1], ST.out.2, NX.out⟩
          case measure => simp [intOf]; omega
        · have hd : dig c = none := by
            unfold dig; rw [if_neg (by omega), if_neg (by omega)]
          have NX : Hid (unhR s.data.toList = (0, 2)) := by
            have := HU.out
            rw [DC.out, unh, hd] at this
            exact unhR_none this.symm
          clear hd
          by_cases g5 : 48 ≤ c.toNat
          · have b1 : decide ((48 : Int) ≤ (c.toNat : Int)) = true := by simp; omega
            have b2 : decide ((c.toNat : Int) ≤ 57) = false := by simp; omega
            by_cases g6 : 97 ≤ c.toNat
            · have b3 : decide ((97 : Int) ≤ (c.toNat : Int)) = true := by simp; omega
              have b4 : decide ((c.toNat : Int) ≤ 102) = false := by simp; omega
              clear g1 g4 g5 g6
              go_wp2_with fail
              go_ret2
              exact ⟨by rw [NX.out]; rfl, HB.out⟩
            · have b3 : decide ((97 : Int) ≤ (c.toNat : Int)) = false := by simp; omega
              clear g1 g4 g5 g6
              go_wp2_with fail
              go_ret2
              exact ⟨by rw [NX.out]; rfl, HB.out⟩
          · have b1 : decide ((48 : Int) ≤ (c.toNat : Int)) = false := by simp; omega
            have b3 : decide ((97 : Int) ≤ (c.toNat : Int)) = false := by simp; omega
            clear g1 g4 g5
            go_wp2_with fail
            go_ret2
            exact ⟨by rw [NX.out]; rfl, HB.out⟩
    · have hd : s.data.toList.drop k = [] := List.drop_of_length_le (by simp; omega)
      have NX : Hid (unhR s.data.toList = (a, 0)) := by
        have := HU.out
        rw [hd, unh] at this
        exact unhR_some this.symm
      clear hd
      go_wp2_with fail
      go_ret2
      exact ⟨by rw [NX.out]; rfl, HB.out⟩

theorem unhex_arg (s : ByteArray) (w : World) (h : s.size < 1 ∨ 16 < s.size) :
    Calls Try.prog 47 #[.string s] w fun e w' => e = .returned (.tuple #[.int .u64 0, .int .i64 2]) ∧ w = w' := by
  rcases h with h | h
  · have t1 : (s.size : Int) < 1 := by omega
    clear h
    go_enter Try.func47, Try.ntmps47
    go_wp2_with fail
    go_ret2
    exact ⟨rfl, rfl⟩
  · have t1 : ¬ (s.size : Int) < 1 := by omega
    have t2 : (16 : Int) < (s.size : Int) := by omega
    clear h
    go_enter Try.func47, Try.ntmps47
    go_wp2_with fail
    go_ret2
    exact ⟨rfl, rfl⟩
end Go.Proofs.Ytafialodjnjihaa
