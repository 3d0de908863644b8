/- The reference's parts of a key: a number as bytes and back, a text with its end. Conditions: numbers fit their kinds, texts are at most 65536 bytes long. -/
import Derived.Test.YtafialodjnjihaaDoorMid
namespace Go.Proofs.YtafialodjnjihaaDoor
open Go Go.RowKit Go.BigFrame
set_option maxRecDepth 100000
set_option linter.unusedVariables false

def highRow (x j : Nat) : List Value := (List.range 8).map fun i => byteV (if 8 - j ≤ i then UInt8.ofNat (x / 2 ^ (56 - 8 * i)) else 0)
theorem highRow_len (x j : Nat) : (highRow x j).length = 8 := by simp [highRow]
theorem highRow_zero (x : Nat) : highRow x 0 = List.replicate 8 (.int .u8 0) := rfl
theorem highRow_full (x : Nat) : highRow x 8 = (be 8 x).map byteV := rfl
theorem highRow_get (x j i : Nat) (h : i < 8) : (highRow x j)[i]? = some (byteV (if 8 - j ≤ i then UInt8.ofNat (x / 2 ^ (56 - 8 * i)) else 0)) := by
  unfold highRow
  rw [List.getElem?_map, List.getElem?_range h]; rfl
theorem highRow_at (x j : Nat) (h : j < 8) : (highRow x j)[7 - j]? = some (.int .u8 0) := by
  rw [highRow_get x j _ (by omega), if_neg (by omega)]; rfl
theorem highRow_set (x j : Nat) (h : j < 8) : (highRow x j).set (7 - j) (byteV (UInt8.ofNat (x / 2 ^ (8 * j)))) = highRow x (j + 1) := by
  apply List.ext_getElem?
  intro i
  rw [List.getElem?_set, highRow_len]
  by_cases hi : i < 8
  · rw [highRow_get x (j + 1) i hi, highRow_get x j i hi]
    by_cases e : 7 - j = i
    · rw [if_pos e, if_pos (by omega), if_pos (by omega)]
      rw [show 56 - 8 * i = 8 * j by omega]
    · rw [if_neg e]
      by_cases e2 : 8 - j ≤ i
      · rw [if_pos e2, if_pos (by omega)]
      · rw [if_neg e2, if_neg (by omega)]
  · rw [if_neg (by omega), List.getElem?_eq_none (by rw [highRow_len]; omega), List.getElem?_eq_none (by rw [highRow_len]; omega)]
set_option maxHeartbeats 2000000 in
theorem refhigh_any (x : Nat) (w : World) (hx : x < 18446744073709551616) :
    Calls Tryd.prog 68 #[.int .u64 x] w fun e w' => e = .returned (.string ⟨(be 8 x).toArray⟩) ∧ Below w.heap.size w w' := by
  obtain ⟨i0, hi, hz0, hz1, hz2⟩ := info_parts infoB
  have HX := box hx
  clear hx
  go_enter Tryd.func68, Tryd.ntmps68
  go_wp2_with (first | (at_make; refine wpList_make_full _ rfl (.const (.int .i64 8)) (.const (.int .i64 8)) 60 rfl w.heap.size 5 i0 (.int .u8 0) 1 Tryd.underlying60 hi hz0 hz1 .i64 .i64 8 8 8 rfl rfl rfl rfl ?c1 ?c2 ?c3 ?_))
  case c1 => rw [hz2]; decide
  case c2 => decide
  case c3 => exact Nat.le_refl _
  intro w1 hown hg
  have O1 : Box (w1.ownsRow w.heap.size 5 1 (.slice (some ⟨w.heap.size, 0, none⟩) 8 8) 8 (highRow x 0)) := box (by
    have e : (madeCells #[Value.int IntKind.u8 0] 8).toList = highRow x 0 := by rw [highRow_zero, made_one]
    rw [← e]; exact hown)
  have B1 := box ((Below.refl w.heap.size w).grown hg (Nat.le_refl _) (fun k hk => by cases hk))
  clear hown hg hi hz0 hz1 hz2
  go_wp2_with fail
  go_loopw [0, 4] (fun v i wr => ∃ j y : Nat, j ≤ 8 ∧ i = .int .i64 (7 - (j : Int)) ∧ v = .int .u64 y ∧ y = x / 2 ^ (8 * j) ∧ wr.ownsRow w.heap.size 5 1 (.slice (some ⟨w.heap.size, 0, none⟩) 8 8) 8 (highRow x j) ∧ Below w.heap.size w wr) (fun _ i _ => (intOf i + 1).toNat)
  case atStart => exact ⟨0, x, Nat.zero_le _, by simp, rfl, by simp, O1.out, B1.out⟩
  case round =>
    obtain ⟨j, y, hj, rfl, rfl, hy, hown, hbel⟩ := hrel
    have O := box hown
    have B := box hbel
    clear O1 B1 hbel
    have hy2 : y < 18446744073709551616 := by
      rw [hy]; exact Nat.lt_of_le_of_lt (Nat.div_le_self _ _) HX.out
    by_cases hlt : j < 8
    · obtain ⟨D, hD⟩ : ∃ D : Nat, 7 - (j : Int) = D := ⟨7 - j, by omega⟩
      have hDn : D = 7 - j := by omega
      have hc := hown.cellAt (7 - j) (by omega)
      have hfz := hown.frozenAt (7 - j)
      rw [highRow_at x j hlt] at hc
      rw [← hDn] at hc hfz
      have HY := box hy
      have HY2 := box hy2
      have HDn := box hDn
      have hD8 : (D : Int) < 8 := by omega
      clear hown hy hy2 hDn
      rw [hD]
      have HD := box hD
      clear hD
      go_wp2_with fail
      go_roundw
      case rel =>
        have e2 : IntKind.u64.wrap ((y : Int) / 256) = ((y / 256 : Nat) : Int) := by
          have := HY2.out
          rw [IntKind.wrap_u64]; omega
        have e3 : ((y : Int) % 256) = ((UInt8.ofNat (x / 2 ^ (8 * j))).toNat : Int) := by
          rw [← HY.out, UInt8.toNat_ofNat']; omega
        refine ⟨j + 1, y / 256, hlt, ?_, by rw [e2], ?_, ?_, B.out.setCell (Nat.le_refl _) _⟩
        · have := HD.out
          congr 1; omega
        · rw [HY.out, Nat.div_div_eq_div_mul, show 8 * (j + 1) = 8 * j + 8 by omega, Nat.pow_add]
        · rw [e3, HDn.out, ← highRow_set x j hlt]
          exact (O.out.stored (7 - j) _).1
      case measure => simp [intOf]
    · obtain rfl : j = 8 := by omega
      have hcv := str_of_row (w := wr) (base := w.heap.size) (v := .slice (some ⟨w.heap.size, 0, none⟩) 8 8) (be 8 x) (by rw [be_len, ← highRow_full]; exact O.out)
      clear hown hj hy hy2
      go_wp2_with fail
      go_ret
      exact ⟨rfl, B.out⟩
set_option maxHeartbeats 2000000 in
/-- number: eight bytes -/
theorem refnumber_any (s : ByteArray) (w : World) (hs : s.size = 8) :
    Calls Tryd.prog 79 #[.string s] w fun e w' => e = .returned (.int .u64 (Kl.num s.data.toList)) ∧ w = w' := by
  have HS := box hs
  go_enter Tryd.func79, Tryd.ntmps79
  go_wp2_with fail
  go_loop [3, 4] (fun v i => ∃ k : Nat, k ≤ 8 ∧ i = .int .i64 k ∧ v = .int .u64 (Kl.num (s.data.toList.take k))) (fun _ i => 8 - (intOf i).toNat)
  case atStart => exact ⟨0, Nat.zero_le _, rfl, rfl⟩
  case round =>
    obtain ⟨k, hk, rfl, rfl⟩ := hrel
    by_cases hlt : k < 8
    · have hks : k < s.size := by omega
      have hksI : (k : Int) < (s.size : Int) := by omega
      have TK := box (take_num s.data.toList k hks)
      have hg : s.data.toList.getD k 0 = s[k] := by simp [hks]; rfl
      rw [hg] at TK
      have hl : (s.data.toList.take k).length < 8 := by rw [List.length_take]; omega
      obtain ⟨l, hl'⟩ : ∃ l, s.data.toList.take k = l := ⟨_, rfl⟩
      rw [hl'] at TK hl
      rw [hl']
      have hcb : (s[k].toNat : Int) < 256 := by have := s[k].toNat_lt; omega
      have E2 := box (num_small l hl)
      have ZS := box (Kl.num_snoc l s[k])
      obtain ⟨z, hz⟩ : ∃ z, Kl.num l = z := ⟨_, rfl⟩
      rw [hz] at E2 ZS ⊢
      have HCB := box hcb
      clear hz hl hl' hg hcb
      go_wp2_with fail
      go_round
      case rel =>
        refine ⟨k + 1, hlt, by go_num, ?_⟩
        have e1 : IntKind.u64.wrap (IntKind.u64.wrap (256 * (z : Int)) + IntKind.u64.wrap (s[k].toNat : Int)) = ((z * 256 + s[k].toNat : Nat) : Int) := by
          have h1 := E2.out
          have h2 := HCB.out
          rw [IntKind.wrap_u64, IntKind.wrap_u64, IntKind.wrap_u64]
          omega
        rw [e1, TK.out, ZS.out]
      case measure => simp [intOf]; omega
    · obtain rfl : k = 8 := by omega
      have e8 : s.data.toList.take 8 = s.data.toList := List.take_of_length_le (Nat.le_of_eq hs)
      rw [e8]
      go_wp2_with fail
      go_ret
      exact ⟨rfl, rfl⟩
end Go.Proofs.YtafialodjnjihaaDoor
