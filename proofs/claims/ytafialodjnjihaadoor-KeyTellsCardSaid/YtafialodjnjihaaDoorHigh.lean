/- key.high: a number, the highest byte first. Condition: the bytes before are a row of the call's own. -/
import Derived.Test.YtafialodjnjihaaDoorShaped
import Derived.Test.YtafialodjnjihaaDoorAlive04
import Derived.Test.YtafialodjnjihaaDoorCopy
namespace Go.Proofs.YtafialodjnjihaaDoor
open Go Go.RowKit Go.BigFrame
set_option maxRecDepth 100000
set_option linter.unusedVariables false

/-- The j highest bytes of a number of eight, the highest first. -/
def be (j x : Nat) : List UInt8 := (List.range j).map fun i => UInt8.ofNat (x / 2 ^ (56 - 8 * i))
theorem be_len (j x : Nat) : (be j x).length = j := by simp [be]
theorem be_succ (j x : Nat) : be (j + 1) x = be j x ++ [UInt8.ofNat (x / 2 ^ (56 - 8 * j))] := by simp [be, List.range_succ]
/-- Bytes of the call's own; values' boxes are kept. -/
structure Bytes6 (base : Nat) (w w' : World) (v : Value) (l : List UInt8) : Prop where
  own : w'.ownsRow base 5 1 v l.length (l.map byteV)
  below : Below base w w'
  kept : ∀ g cs, Whole1 w g 24 cs → Whole1 w' g 24 cs
def HighSays (base : Nat) (w : World) (l : List UInt8) (e : Ending) (w' : World) : Prop := ∃ v, e = .returned v ∧ Bytes6 base w w' v l
theorem grown6 {base : Nat} {w wr w1 : World} {v v1 : Value} {l : List UInt8} (h : Bytes6 base w wr v l) {z : Value} (ho : w1.ownsRow base 5 1 v1 (l.length + 1) (l.map byteV ++ [z])) (hb : Below base wr w1) (hg : wr.grownBy w1 v.ownBlock) (hbase : base ≤ w.heap.size) (b : UInt8) (hz : z = byteV b) : Bytes6 base w w1 v1 (l ++ [b]) := by
  subst hz
  refine ⟨by simpa using ho, h.below.trans hb, fun g cs hc => ?_⟩
  have h1 := h.kept g cs hc
  exact h1.grown hg (fun e => own_ne h.own h1 (by decide) e.symm)
theorem high_any (base : Nat) (v : Value) (l : List UInt8) (x : Nat) (hx : x < 18446744073709551616) (w : World) (hl : l.length ≤ 1000000) (hown : w.ownsRow base 5 1 v l.length (l.map byteV)) (hb : base ≤ w.heap.size) :
    Calls Tryd.prog 49 #[v, .int .u64 x] w (HighSays base w (l ++ be 8 x)) := by
  obtain ⟨i0, hi, hz0, hz1, hz2⟩ := info_parts infoB
  have O := box hown
  obtain ⟨a0, cap, rfl⟩ := own_any hown
  clear hown
  go_enter Tryd.func49, Tryd.ntmps49
  go_wp2_with fail
  go_loopw [0, 5] (fun r i wr => ∃ k : Nat, k ≤ 8 ∧ i = .int .i64 (56 - 8 * (k : Int)) ∧ Bytes6 base w wr r (l ++ be k x)) (fun _ i _ => (intOf i + 8).toNat)
  case atStart => exact ⟨0, Nat.zero_le _, by simp, by simpa [be] using O.out, Below.refl _ _, fun _ _ h => h⟩
  case round =>
    obtain ⟨k, hk, rfl, hB⟩ := hrel
    have BX := box hB
    have hsz := hB.below.size
    clear hB
    have LN := box (show (l ++ be k x).length = l.length + k by rw [List.length_append, be_len])
    by_cases hlt : k < 8
    · obtain ⟨D, hD⟩ : ∃ D : Nat, 56 - 8 * (k : Int) = D := ⟨56 - 8 * k, by omega⟩
      have hDn := box (show D = 56 - 8 * k by omega)
      obtain ⟨L, hL⟩ : ∃ L, l ++ be k x = L := ⟨_, rfl⟩
      have HL := box hL
      rw [hL] at BX LN
      clear hL
      have hD6 : D < 64 := by omega
      rw [hD]
      have HD := box hD
      clear hD
      go_wp2_with (at_builtin; refine append_one wr rfl (.tmp 10) (.tmp 15) 60 rfl base 5 i0 (.int .u8 0) 1 1 Tryd.underlying60 hi hz0 hz1 hz2 rfl (by decide) _ _ _ rfl BX.out.own [.int .u8 ((x : Int) / 2 ^ D % 256)] rfl rfl ?c2 ?c3 ?c4 ?c5 ?_ ?c6)
      case c2 => intro u hu; simp at hu; subst hu; rfl
      case c3 => rw [LN.out]; unfold maxLen; omega
      case c4 => rw [LN.out]; omega
      case c5 => exact Nat.le_trans hb hsz
      case c6 => rfl
      intro v1 w1 hown1 hbel1 hg1
      have NX := box (grown6 BX.out hown1 hbel1 hg1 hb (UInt8.ofNat (x / 2 ^ D)) (by simp [byteV]))
      clear hown1 hbel1 hg1
      rw [← HL.out, List.append_assoc, hDn.out, ← be_succ] at NX
      go_wp2_with fail
      go_roundw
      case rel => exact ⟨k + 1, by omega, by have := HD.out; go_num, NX.out⟩
      case measure => have := HD.out; simp [intOf]; omega
    · obtain rfl : k = 8 := by omega
      go_wp2_with fail
      go_ret
      exact ⟨_, rfl, BX.out⟩
end Go.Proofs.YtafialodjnjihaaDoor
