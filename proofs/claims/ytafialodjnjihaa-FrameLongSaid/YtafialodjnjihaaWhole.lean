/- The frames that are whole within some bytes, as the law counts them; what was read, as a slice of texts. No condition. -/
import Derived.Test.YtafialodjnjihaaScans
namespace Go.Proofs.Ytafialodjnjihaa
open Go Go.RowKit Go.BigFrame
set_option maxRecDepth 100000
set_option linter.unusedVariables false

theorem own_lt {w : World} {base size n : Nat} {e : TypeId} {v : Value} {xs : List Value} (h : w.ownsRow base e size v n xs) : ∀ k, v.ownBlock = some k → k < w.heap.size := by
  intro k hk
  rcases h.2 with ⟨rfl, _⟩ | ⟨g, cap, cur, rfl, _, hh, _⟩
  · simp [Value.ownBlock] at hk
  · have : g = k := by simpa [Value.ownBlock] using hk
    subst this
    rcases Nat.lt_or_ge g w.heap.size with h' | h'
    · exact h'
    · rw [Array.getElem?_eq_none h'] at hh; cases hh
theorem own_max {w : World} {base n : Nat} {e : TypeId} {v : Value} {xs : List Value} (h : w.ownsRow base e 1 v n xs) : n ≤ maxLen := by
  rcases h.2 with ⟨_, h0⟩ | ⟨g, cap, cur, _, _, _, h1, h2, _⟩
  · omega
  · omega
/-- What a scan told, as a slice of texts. -/
theorem strs3_own {w : World} {base : Nat} {v : Value} {l : List ByteArray} (h : w.ownsRow base 9 1 v l.length (texts l)) : ∃ a cap, v = .slice a l.length cap ∧ Strs3 w a l.length l := by
  by_cases h0 : 0 < l.length
  · obtain ⟨g, cap, rfl, hc⟩ := own_cell h h0
    refine ⟨_, cap, rfl, rfl, own_max h, fun _ => ⟨g, 0, rfl, own_lt h g rfl, fun i hi => ?_⟩⟩
    rw [Nat.zero_add]
    exact hc i _ (by simp [texts, hi])
  · obtain ⟨a, cap, rfl⟩ := own_any h
    exact ⟨a, cap, rfl, rfl, own_max h, fun h1 => absurd h1 h0⟩
theorem strs3_take {w : World} {a : Option Addr} {n : Nat} {ss : List ByteArray} (h : Strs3 w a n ss) (k : Nat) (hk : k ≤ n) : Strs3 w a k (ss.take k) :=
  ⟨by rw [List.length_take, h.1]; omega, Nat.le_trans hk h.2.1, fun h0 => by
    obtain ⟨b, off, rfl, hb, hc⟩ := h.2.2 (by omega)
    refine ⟨b, off, rfl, hb, fun i hi => ?_⟩
    rw [hc i (by omega)]
    simp [List.getElem?_take_of_lt hi]⟩
theorem strs3_one (w : World) (s : ByteArray) : Strs3 (w.alloc (.cells #[.string s] 9)) (some ⟨w.heap.size, 0, none⟩) 1 [s] :=
  ⟨rfl, by decide, fun _ => ⟨w.heap.size, 0, rfl, by simp, fun i hi => by
    obtain rfl : i = 0 := by omega
    exact (Whole1.made w 9 #[.string s]).cell 0⟩⟩
theorem strs3_two (w : World) (s t : ByteArray) : Strs3 (w.alloc (.cells #[.string s, .string t] 9)) (some ⟨w.heap.size, 0, none⟩) 2 [s, t] :=
  ⟨rfl, by decide, fun _ => ⟨w.heap.size, 0, rfl, by simp, fun i hi => by
    rcases i with _ | _ | i
    · exact (Whole1.made w 9 #[.string s, .string t]).cell 0
    · exact (Whole1.made w 9 #[.string s, .string t]).cell 1
    · omega⟩⟩

theorem pos_mono (ss : List ByteArray) (i : Nat) (h : i < ss.length) : pos ss i + 12 ≤ pos ss (i + 1) := by rw [pos_succ ss i h]; omega
theorem pos_le (ss : List ByteArray) (i : Nat) (hn : ss.length ≤ 200) (ht : total ss ≤ 32768) (hi : i ≤ ss.length) : pos ss i ≤ 35168 := by
  rw [← frames_pos ss i hi]; exact frames_le ss i hn ht hi

/-- What whole tells. -/
def WholeSays (ss : List ByteArray) (m : Nat) (w : World) (e : Ending) (w' : World) : Prop := ∃ k, Wholes ss m k ∧ e = .returned (.tuple #[.int .i64 (k : Nat), .int .i64 (pos ss k : Nat)]) ∧ w' = w
set_option maxHeartbeats 2000000 in
theorem whole_any (a : Option Addr) (n c : Nat) (ss : List ByteArray) (m : Nat) (w : World) (hr : Strs3 w a n ss) (hn : n ≤ 200) (ht : total ss ≤ 32768) (hm : m ≤ 1000000) :
    Calls Try.prog 61 #[.slice a n c, .int .i64 m] w (WholeSays ss m w) := by
  have HR := box hr; clear hr
  have HT := box ht; clear ht
  go_enter Try.func61, Try.ntmps61
  go_wp2_with fail
  go_loop [6, 7] (fun p c => ∃ (i : Nat), p = .int .i64 (pos ss i : Nat) ∧ c = .int .i64 i ∧ i ≤ n ∧ Box (pos ss i ≤ m)) (fun _ c => n - (intOf c).toNat)
  case atStart => exact ⟨0, by rw [pos_zero]; rfl, rfl, Nat.zero_le _, box (by rw [pos_zero]; omega)⟩
  case round =>
    obtain ⟨i, rfl, rfl, hi, hp⟩ := hrel
    have hl : ss.length = n := HR.out.1
    by_cases hin : i < n
    · obtain ⟨tb, tf, rfl, htb, htc⟩ := HR.out.2.2 (by omega)
      have hcell := htc i hin
      have HS := box (pos_succ ss i (by omega))
      have hb1 := pos_le ss i (by omega) HT.out (by omega)
      have hb2 := at_le HT.out i (by omega)
      generalize hg : ss.getD i ByteArray.empty = tx at *
      have HG := box hg
      have HW := box (show ∀ h : ¬ pos ss (i + 1) ≤ m, Wholes ss m i from fun h => ⟨by omega, hp.out, fun _ => by omega⟩)
      clear hg htc
      by_cases hgo : pos ss (i + 1) ≤ m
      · have hgo' := hgo
        rw [HS.out] at hgo'
        have HP := box hgo
        clear hgo
        generalize hq : pos ss i = q at *
        have HQ := box hq
        clear hq
        have t1 : (q : Int) + 12 + (tx.size : Int) ≤ (m : Int) := by omega
        clear hgo'
        go_wp2_with fail
        exact ⟨⟨i + 1, by rw [HS.out]; rfl, rfl, hin, HP⟩, by simp only [intOf]; omega⟩
      · have hw := HW.out hgo
        have hgo' := hgo
        rw [HS.out] at hgo'
        have HP := box hw
        clear hgo hw
        generalize hq : pos ss i = q at *
        have HQ := box hq
        clear hq
        have t1 : ¬ (q : Int) + 12 + (tx.size : Int) ≤ (m : Int) := by omega
        clear hgo'
        go_wp2_with fail
        go_ret2
        exact ⟨i, HP.out, by rw [HQ.out]; rfl, rfl⟩
    · have HW := box (show Wholes ss m n from ⟨by omega, by have := hp.out; rw [show n = i by omega]; exact this, fun h => by omega⟩)
      have hd : decide (i < n) = false := by simpa using hin
      obtain rfl : i = n := by omega
      generalize hq : pos ss i = q at *
      have HQ := box hq
      clear hq
      go_wp2_with fail
      go_ret2
      exact ⟨i, HW.out, by rw [HQ.out]; rfl, rfl⟩
end Go.Proofs.Ytafialodjnjihaa
