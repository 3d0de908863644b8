/- WordBursts: a text whose bits are turned within 32 in a row has another sum. The walk of the law. Conditions: the numbers fit their kinds. -/
import Derived.Test.YtafialodjnjihaaAlive01
import Derived.Test.YtafialodjnjihaaNums
import Derived.Lib.AtoiErrMem
namespace Go.Proofs.Ytafialodjnjihaa
open Go Go.RowKit
set_option maxRecDepth 100000
set_option linter.unusedVariables false

/-- Block g holds the bytes l, and what lies behind them; the mark of a conversion's row lies behind all. -/
def ByteBlock (w : World) (g : Nat) (l : List UInt8) : Prop :=
  ∃ cs : Array Value, w.heap[g]? = some (.cells cs 5 (cs.size, cs.size + 1)) ∧ l.length ≤ cs.size ∧ ∀ j (h : j < l.length), cs[j]? = some (byteV l[j])

section
variable {w w' : World} {g : Nat} {l : List UInt8}
theorem ByteBlock.cell (h : ByteBlock w g l) (j : Nat) (hj : j < l.length) : w.cell? ⟨g, j, none⟩ = some (byteV l[j]) := by
  obtain ⟨cs, h1, _, h3⟩ := h
  simp [World.cell?, h1, h3 j hj]
theorem ByteBlock.frozen (h : ByteBlock w g l) (j : Nat) (hj : j < l.length) : w.frozen? ⟨g, j, none⟩ = false := by
  obtain ⟨cs, h1, h2, _⟩ := h
  simp [World.frozen?, h1]
  omega
theorem ByteBlock.put (h : ByteBlock w g l) (j : Nat) (hj : j < l.length) (b : UInt8) : ByteBlock (w.setCell ⟨g, j, none⟩ (byteV b)) g (l.set j b) := by
  obtain ⟨cs, h1, h2, h3⟩ := h
  refine ⟨cs.setIfInBounds j (byteV b), ?_, by simpa using h2, fun i hi => ?_⟩
  · simp [World.setCell, Array.getElem?_modify, h1]
  · rw [Array.getElem?_setIfInBounds]
    by_cases e : j = i
    · subst e; rw [if_pos rfl, if_pos (by omega)]; simp
    · rw [if_neg e, h3 i (by simpa using hi)]
      simp [List.getElem_set_ne e]
theorem ByteBlock.below {B : Nat} (h : ByteBlock w g l) (hb : Below B w w') (hg : g < B) : ByteBlock w' g l := by
  obtain ⟨cs, h1, h2, h3⟩ := h
  exact ⟨cs, (hb.block g hg).trans h1, h2, h3⟩
theorem ByteBlock.lt (h : ByteBlock w g l) : g < w.heap.size := by
  obtain ⟨cs, h1, _⟩ := h
  rcases Nat.lt_or_ge g w.heap.size with hlt | hge
  · exact hlt
  · rw [Array.getElem?_eq_none hge] at h1; cases h1
theorem ByteBlock.str (h : ByteBlock w g l) (cap : Nat) : (convert 24 9 (.slice (some ⟨g, 0, none⟩) l.length cap)).run Try.prog w = .ok (.string ⟨l.toArray⟩) w :=
  run_convert_bytes_back (P := Try.prog) w 24 9 5 ⟨g, 0, none⟩ cap l Try.underlying24 Try.underlying5 Try.underlying9 (fun j hj => by
    rw [addr_add0]; exact h.cell j hj)
end
theorem ByteBlock.made (w : World) (s : ByteArray) : ByteBlock (Lib.bytesWorld w 5 s) w.heap.size s.data.toList := by
  refine ⟨Lib.bytesCells w 5 s, Lib.bytesWorld_at_new w 5 s, ?_, fun j hj => ?_⟩
  · simp [Lib.bytesCells]
  · have hj' : j < s.data.size := by simpa using hj
    unfold Lib.bytesCells
    rw [Array.getElem?_append_left (by simpa using hj')]
    simp only [Array.getElem?_map, Array.getElem?_eq_getElem hj', Option.map_some, byteV]
    rfl

/-- the law's bit -/
theorem turn_bit (i t j : Nat) (h : t / 2 ^ j % 2 = 1) : 2 ^ i * (t % 2 ^ j) ^^^ 2 ^ (i + j) = 2 ^ i * (t % 2 ^ (j + 1)) := by
  have hb : t.testBit j = true := by rw [Nat.testBit_eq_decide_div_mod_eq]; simpa using h
  apply Nat.eq_of_testBit_eq
  intro m
  rw [Nat.testBit_xor, Nat.testBit_two_pow_mul, Nat.testBit_two_pow_mul, Nat.testBit_mod_two_pow, Nat.testBit_mod_two_pow, Nat.testBit_two_pow]
  by_cases h1 : i ≤ m
  · obtain ⟨q, rfl⟩ : ∃ q, m = i + q := ⟨m - i, by omega⟩
    rw [show i + q - i = q by omega]
    by_cases h2 : q = j
    · subst h2; simp [hb]
    · by_cases h3 : q < j
      · have : q < j + 1 := by omega
        have h4 : ¬ j = q := by omega
        simp [h3, this, h4]
      · have : ¬ q < j + 1 := by omega
        have h4 : ¬ j = q := by omega
        simp [h3, this, h4]
  · have : ¬ i + j = m := by omega
    simp [h1, this]
theorem len_list' (s : ByteArray) : s.data.toList.length = s.size := by cases s; rfl
theorem turn_none (t j : Nat) (h : t / 2 ^ j % 2 ≠ 1) : t % 2 ^ (j + 1) = t % 2 ^ j := by
  rw [Nat.pow_succ, Nat.mod_mul]
  have : t / 2 ^ j % 2 = 0 := by omega
  rw [this]; simp

def valB (l : List UInt8) : Nat := Crc.val (l.map UInt8.toNat)
theorem valB_set (l : List UInt8) (k x : Nat) (hk : k < l.length) (hx : x < 256) : valB (l.set k (l[k] ^^^ UInt8.ofNat x)) = valB l ^^^ 256 ^ k * x := by
  unfold valB
  rw [List.map_set, UInt8.toNat_xor]
  have h := Crc.val_set (l.map UInt8.toNat) k x (by simpa using hk)
  have e : (l.map UInt8.toNat).getD k 0 = l[k].toNat := by simp [hk]
  rw [e] at h
  rw [← h, UInt8.toNat_ofNat']
  congr 3
  omega
theorem pow_split (i j : Nat) : 256 ^ ((i + j) / 8) * 2 ^ ((i + j) % 8) = 2 ^ (i + j) := by
  rw [show (256 : Nat) = 2 ^ 8 from rfl, ← Nat.pow_mul, ← Nat.pow_add]
  congr 1
  omega
theorem pow_mod8 (m : Nat) : 2 ^ (m % 8) < 256 := by
  have : 2 ^ (m % 8) ≤ 2 ^ 7 := Nat.pow_le_pow_right (by decide) (by omega)
  omega

set_option maxHeartbeats 2000000 in
theorem wordBursts_main (s : ByteArray) (a t : Nat) (w : World) (h4 : ¬ (s.size : Int) < 4) (h8 : ¬ (8192 : Int) < (s.size : Int)) (ht : t < 4294967296) (ht0 : ((t : Int) == 0) = false) (ha : (a : Int) < 65536) :
    Calls Try.prog 12 #[.string s, .int .u16 a, .int .u32 t] w fun e w' => e = .returned (.bool true) ∧ Below w.heap.size w w' := by
  have HT := Lib.hid ht
  have S1 := Lib.hid (fun (s : ByteArray) (h : s.size ≤ 8192) w => sum_any s w (by omega))
  have hcv := Lib.run_convert_string_bytes (P := Try.prog) w 9 24 5 s Try.underlying9 Try.underlying24 Try.underlying5
  have HB := Lib.hid (Lib.bytesWorld_below w 5 s)
  have HC := Lib.hid (ByteBlock.made w s)
  generalize Lib.bytesWorld w 5 s = wb at *
  generalize grownCap w s.size 0 5 = cap at *
  obtain ⟨i, hi⟩ : ∃ i : Nat, (a : Int) % (8 * (s.size : Int) - 31) = (i : Int) := ⟨((a : Int) % (8 * (s.size : Int) - 31)).toNat, by
    have := Int.emod_nonneg (a : Int) (show 8 * (s.size : Int) - 31 ≠ 0 by omega)
    omega⟩
  have hil : (i : Int) ≤ 8 * (s.size : Int) - 32 := by
    have := Int.emod_lt_of_pos (a : Int) (show 0 < 8 * (s.size : Int) - 31 by omega)
    omega
  have HI := Lib.hid hil
  clear ht
  go_enter Try.func12, Try.ntmps12
  go_wp2_with fail
  clear ha
  go_loopw [9] (fun jj wr => ∃ (j : Nat) (l : List UInt8), j ≤ 32 ∧ jj = .int .i64 j ∧ l.length = s.size ∧ ByteBlock wr w.heap.size l ∧ valB l = valB s.data.toList ^^^ 2 ^ i * (t % 2 ^ j) ∧ Below w.heap.size w wr) (fun jj _ => 32 - (intOf jj).toNat)
  case atStart => exact ⟨0, s.data.toList, by omega, rfl, len_list' s, HC.out, by simp [Nat.mod_one], HB.out⟩
  case round =>
    obtain ⟨j, l, hj, rfl, hl, hbb, hv, hbel⟩ := hrel
    have HL := Lib.hid hl
    have BB := Lib.hid hbb
    have HV := Lib.hid hv
    have B := Lib.hid hbel
    clear hl hbb hv hbel
    by_cases hlt : j < 32
    · by_cases hbit : t / 2 ^ j % 2 = 1
      · obtain ⟨Q, hQ⟩ : ∃ Q, Q = t / 2 ^ j := ⟨_, rfl⟩
        have hq : (t : Int) / 2 ^ j = (Q : Int) := by rw [hQ]; simp
        have hb1 : ((Q : Int) % 2 == 1) = true := by rw [← hQ] at hbit; simp; omega
        have HQ := Lib.hid hQ
        clear hQ
        have hkl : (i + j) / 8 < l.length := by have := HL.out; have := HI.out; omega
        have hc := BB.out.cell ((i + j) / 8) hkl
        have hfz := BB.out.frozen ((i + j) / 8) hkl
        unfold byteV at hc
        obtain ⟨c, hcc⟩ : ∃ c, c = l[(i + j) / 8] := ⟨_, rfl⟩
        rw [← hcc] at hc
        have HCC := Lib.hid hcc
        have hks : ((i : Int) + j) / 8 < (s.size : Int) := by have := HI.out; omega
        clear hcc
        have hx : bits BinOp.xor IntKind.u8 (c.toNat : Int) (2 ^ ((i + j) % 8) % 256) = (((c ^^^ UInt8.ofNat (2 ^ ((i + j) % 8))).toNat : Nat) : Int) := by
          have hp := pow_mod8 (i + j)
          have e : ((2 : Int) ^ ((i + j) % 8) % 256) = ((2 ^ ((i + j) % 8) : Nat) : Int) := by
            have e2 : ((2 : Int) ^ ((i + j) % 8)) = ((2 ^ ((i + j) % 8) : Nat) : Int) := by rw [Int.natCast_pow]; rfl
            rw [e2]
            generalize 2 ^ ((i + j) % 8) = z at hp
            omega
          rw [e, xor_u8 _ _ c.toNat_lt hp, UInt8.toNat_xor, UInt8.toNat_ofNat', Nat.mod_eq_of_lt hp]
        have HX := Lib.hid hx
        clear hx
        go_wp2_with fail
        go_roundw
        case rel =>
          refine ⟨j + 1, l.set ((i + j) / 8) (c ^^^ UInt8.ofNat (2 ^ ((i + j) % 8))), hlt, by go_num, by rw [List.length_set]; exact HL.out, ?_, ?_, B.out.setCell (Nat.le_refl _) _⟩
          · rw [HX.out]; exact BB.out.put _ hkl _
          · rw [HCC.out, valB_set l _ _ hkl (pow_mod8 _), pow_split, HV.out, Nat.xor_assoc, turn_bit i t j hbit]
        case measure => simp [intOf]; omega
      · obtain ⟨Q, hQ⟩ : ∃ Q, Q = t / 2 ^ j := ⟨_, rfl⟩
        have hq : (t : Int) / 2 ^ j = (Q : Int) := by rw [hQ]; simp
        have hb1 : ((Q : Int) % 2 == 1) = false := by rw [← hQ] at hbit; simp; omega
        have HQ := Lib.hid hQ
        clear hQ
        have NB := Lib.hid (turn_none t j hbit)
        clear hbit
        go_wp2_with fail
        go_roundw
        case rel => exact ⟨j + 1, l, hlt, by go_num, HL.out, BB.out, by rw [NB.out]; exact HV.out, B.out⟩
        case measure => simp [intOf]; omega
    · obtain rfl : j = 32 := by omega
      have hst := BB.out.str cap
      rw [HL.out] at hst
      have h8' : s.size ≤ 8192 := by omega
      have hls : (⟨l.toArray⟩ : ByteArray).size = s.size := by rw [← HL.out]; simp [ByteArray.size]
      have HN : Hid (((Crc.sum (bytesN ⟨l.toArray⟩) : Int) != (Crc.sum (bytesN s) : Int)) = true) := Lib.hid (by
        have hne : Crc.sum (bytesN ⟨l.toArray⟩) ≠ Crc.sum (bytesN s) := by
          refine Crc.sum_burst (bytesN s) (bytesN ⟨l.toArray⟩) (by rw [bytesN_len, bytesN_len, hls]) i t ?_ HT.out ?_ ?_
          · have : ¬ ((t : Int) == 0) = true := by rw [ht0]; simp
            simp at this; omega
          · rw [bytesN_len]; have := HI.out; omega
          · have e1 : Crc.val (bytesN ⟨l.toArray⟩) = valB l := by unfold bytesN valB; simp
            have e2 : Crc.val (bytesN s) = valB s.data.toList := rfl
            rw [e1, e2, HV.out]
            congr 2
            exact Nat.mod_eq_of_lt HT.out
        simp; omega)
      have H1 := Lib.hid (S1.out ⟨l.toArray⟩ (by rw [hls]; exact h8'))
      have H2 := Lib.hid (S1.out s h8')
      clear h8' hls
      generalize Crc.sum (bytesN ⟨l.toArray⟩) = c1 at *
      generalize Crc.sum (bytesN s) = c2 at *
      go_wp2_with fail
      refine (H1.out _).mono ?_
      rintro e w1 ⟨rfl, hb⟩
      have B1 := Lib.hid (B.out.trans (hb.mono B.out.size))
      clear hb
      go_wp2_with fail
      refine (H2.out _).mono ?_
      rintro e w2 ⟨rfl, hb⟩
      have B2 := Lib.hid (B1.out.trans (hb.mono B1.out.size))
      clear hb
      have hne := HN.out
      go_wp2_with fail
      refine (alive01 _).mono ?_
      rintro e w3 ⟨rfl, hb⟩
      have B3 := Lib.hid (B2.out.trans (hb.mono B2.out.size))
      clear hb
      go_wp2_with fail
      go_ret
      exact ⟨rfl, B3.out⟩
theorem wordBursts_short (s : ByteArray) (a t : Int) (w : World) (h : (s.size : Int) < 4) :
    Calls Try.prog 12 #[.string s, .int .u16 a, .int .u32 t] w fun e w' => e = .returned (.bool true) ∧ Below w.heap.size w w' := by
  go_enter Try.func12, Try.ntmps12
  go_wp2_with fail
  refine (alive01 _).mono ?_
  rintro e w3 ⟨rfl, hb⟩
  have B := Lib.hid hb
  clear hb
  go_wp2_with fail
  go_ret
  exact ⟨rfl, B.out⟩

theorem wordBursts_long (s : ByteArray) (a t : Int) (w : World) (h4 : ¬ (s.size : Int) < 4) (h : (8192 : Int) < (s.size : Int)) :
    Calls Try.prog 12 #[.string s, .int .u16 a, .int .u32 t] w fun e w' => e = .returned (.bool true) ∧ Below w.heap.size w w' := by
  go_enter Try.func12, Try.ntmps12
  go_wp2_with fail
  refine (alive01 _).mono ?_
  rintro e w3 ⟨rfl, hb⟩
  have B := Lib.hid hb
  clear hb
  go_wp2_with fail
  go_ret
  exact ⟨rfl, B.out⟩

theorem wordBursts_none (s : ByteArray) (a t : Int) (w : World) (h4 : ¬ (s.size : Int) < 4) (h : ¬ (8192 : Int) < (s.size : Int)) (h0 : (t == 0) = true) :
    Calls Try.prog 12 #[.string s, .int .u16 a, .int .u32 t] w fun e w' => e = .returned (.bool true) ∧ Below w.heap.size w w' := by
  go_enter Try.func12, Try.ntmps12
  go_wp2_with fail
  refine (alive01 _).mono ?_
  rintro e w3 ⟨rfl, hb⟩
  have B := Lib.hid hb
  clear hb
  go_wp2_with fail
  go_ret
  exact ⟨rfl, B.out⟩

theorem wordBursts_walk (s : ByteArray) (wf0 : s.size ≤ maxLen) (x1 : Int) (wf1 : (Lit.int .u16 x1).wf = true) (x2 : Int) (wf2 : (Lit.int .u32 x2).wf = true) (w : World) :
    Calls Try.prog 12 #[.string s, .int .u16 x1, .int .u32 x2] w fun e w' => e = .returned (.bool true) ∧ Below w.heap.size w w' := by
  obtain ⟨a, rfl, ha⟩ := u16_nat wf1
  obtain ⟨t, rfl, ht⟩ := u32_nat wf2
  by_cases h4 : (s.size : Int) < 4
  · exact wordBursts_short s a t w h4
  · by_cases h8 : (8192 : Int) < (s.size : Int)
    · exact wordBursts_long s a t w h4 h8
    · by_cases h0 : ((t : Int) == 0) = true
      · exact wordBursts_none s a t w h4 h8 h0
      · exact wordBursts_main s a t w h4 h8 ht (by simpa using h0) (by omega)

end Go.Proofs.Ytafialodjnjihaa
