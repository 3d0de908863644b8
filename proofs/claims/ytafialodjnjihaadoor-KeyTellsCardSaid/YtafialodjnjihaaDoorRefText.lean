/- The reference's text with its end, and back. Conditions: texts are at most 65536 bytes long. -/
import Derived.Test.YtafialodjnjihaaDoorRefKey
namespace Go.Proofs.YtafialodjnjihaaDoor
open Go Go.RowKit Go.BigFrame
set_option maxRecDepth 100000
set_option linter.unusedVariables false

theorem esc_take (s : ByteArray) (k : Nat) (h : k < s.size) : Kl.esc (s.data.toList.take (k + 1)) = Kl.esc (s.data.toList.take k) ++ (if s[k] = 0 then [0, 255] else [s[k]]) := by
  rw [take_num s.data.toList k h, Kl.esc_app]
  have hg : s.data.toList.getD k 0 = s[k] := by simp [h]; rfl
  rw [hg]
  by_cases h0 : s[k] = 0
  · rw [if_pos h0, h0]; rfl
  · rw [if_neg h0, Kl.esc_ne h0]; rfl
theorem esc_split : ∀ (L l X r : List UInt8), Kl.esc L ++ X = Kl.esc l ++ 0 :: 1 :: r → ∃ l2, l = L ++ l2 ∧ X = Kl.esc l2 ++ 0 :: 1 :: r := by
  intro L
  induction L with
  | nil => intro l X r h; exact ⟨l, rfl, h⟩
  | cons b L ih =>
    intro l X r h
    by_cases hb : b = 0
    · subst hb
      rw [Kl.esc_zero] at h
      cases l with
      | nil => simp [Kl.esc] at h
      | cons b' l =>
        by_cases hb' : b' = 0
        · subst hb'
          rw [Kl.esc_zero] at h
          simp only [List.cons_append, List.cons.injEq, true_and] at h
          obtain ⟨l2, rfl, hX⟩ := ih l X r h
          exact ⟨l2, rfl, hX⟩
        · rw [Kl.esc_ne hb'] at h
          simp only [List.cons_append, List.cons.injEq] at h
          exact absurd h.1.symm hb'
    · rw [Kl.esc_ne hb] at h
      cases l with
      | nil =>
        simp only [Kl.esc, List.cons_append, List.nil_append, List.cons.injEq] at h
        exact absurd h.1 hb
      | cons b' l =>
        by_cases hb' : b' = 0
        · subst hb'
          rw [Kl.esc_zero] at h
          simp only [List.cons_append, List.cons.injEq] at h
          exact absurd h.1 hb
        · rw [Kl.esc_ne hb'] at h
          simp only [List.cons_append, List.cons.injEq] at h
          obtain ⟨rfl, h⟩ := h
          obtain ⟨l2, rfl, hX⟩ := ih l X r h
          exact ⟨l2, rfl, hX⟩
/-- A text's rest that begins with 0. -/
theorem esc_zero_head {l r m : List UInt8} {d : UInt8} (h : 0 :: d :: m = Kl.esc l ++ 0 :: 1 :: r) : (d = 1 ∧ l = [] ∧ m = r) ∨ d = 255 := by
  cases l with
  | nil => simp [Kl.esc] at h; exact .inl ⟨h.1, rfl, h.2⟩
  | cons b l =>
    by_cases hb : b = 0
    · subst hb
      rw [Kl.esc_zero] at h
      simp at h; exact .inr h.1
    · rw [Kl.esc_ne hb] at h
      simp at h; exact absurd h.1.symm hb
theorem esc_short {l r X : List UInt8} (h : X = Kl.esc l ++ 0 :: 1 :: r) : 2 ≤ X.length := by rw [h]; simp; omega

set_option maxHeartbeats 4000000 in
theorem reftext_any (s : ByteArray) (w : World) (hs : s.size ≤ 65536) :
    Calls Tryd.prog 70 #[.string s] w fun e w' => e = .returned (.string ⟨(Kl.esc s.data.toList ++ [0, 1]).toArray⟩) ∧ Below w.heap.size w w' := by
  obtain ⟨i0, hi, hz0, hz1, hz2⟩ := info_parts infoB
  go_enter Tryd.func70, Tryd.ntmps70
  go_wp2_with fail
  go_loopw [3, 4] (fun r i wr => ∃ k : Nat, i = .int .i64 k ∧ k ≤ s.size ∧ Bytes6 w.heap.size w wr r (Kl.esc (s.data.toList.take k))) (fun _ i _ => s.size - (intOf i).toNat)
  case atStart => exact ⟨0, rfl, Nat.zero_le _, World.ownsRow_nil _ _ _ _, Below.refl _ _, fun _ _ h => h⟩
  case round =>
    obtain ⟨k, rfl, hk, hB⟩ := hrel
    have BX := box hB
    have hsz := hB.below.size
    clear hB
    have LB : (Kl.esc (s.data.toList.take k)).length ≤ 131072 := by
      have h1 := (Kl.esc_len (s.data.toList.take k)).2
      have h2 := List.length_take_le k s.data.toList
      omega
    by_cases hlt : k < s.size
    · have TK := box (esc_take s k hlt)
      obtain ⟨L, hL⟩ : ∃ L, Kl.esc (s.data.toList.take k) = L := ⟨_, rfl⟩
      rw [hL] at BX TK LB
      have hkI : (k : Int) < (s.size : Int) := by omega
      clear hL
      by_cases h0 : s[k] = 0
      · have h0n : s[k].toNat = 0 := by rw [h0]; rfl
        rw [if_pos h0] at TK
        clear h0
        go_wp2_with (at_builtin; refine append_some wr rfl (.tmp 11) (.tmp 15) 60 rfl w.heap.size 5 i0 (.int .u8 0) 1 Tryd.underlying60 hi hz0 hz1 hz2 rfl _ _ 1 _ rfl BX.out.own [.int .u8 0] _ rfl rfl rfl ?c2 ?c3 ?c4 ?c5 ?_ ?c6)
        case c2 => intro u hu; simp at hu; subst hu; rfl
        case c3 => unfold maxLen; omega
        case c4 => omega
        case c5 => omega
        case c6 => rfl
        intro v1 w1 hown1 hbel1 hg1
        have N1 := box (grown6s BX.out (n := L.length + 1) (m := [0]) (zs := [.int .u8 0]) rfl (by simpa using hown1) rfl hbel1 hg1)
        clear hown1 hbel1 hg1
        go_wp2_with (at_builtin; refine append_some w1 rfl (.tmp 21) (.tmp 22) 60 rfl w.heap.size 5 i0 (.int .u8 0) 1 Tryd.underlying60 hi hz0 hz1 hz2 rfl _ _ 1 _ rfl N1.out.own [.int .u8 255] _ rfl rfl rfl ?d2 ?d3 ?d4 ?d5 ?_ ?d6)
        case d2 => intro u hu; simp at hu; subst hu; rfl
        case d3 => unfold maxLen; simp; omega
        case d4 => simp; omega
        case d5 => have := N1.out.below.size; omega
        case d6 => rfl
        intro v2 w2 hown2 hbel2 hg2
        have N2 := box (grown6s N1.out (n := (L ++ [0]).length + 1) (m := [255]) (zs := [.int .u8 255]) rfl (by simpa using hown2) rfl hbel2 hg2)
        clear hown2 hbel2 hg2
        go_wp2_with fail
        go_roundw
        case rel =>
          refine ⟨k + 1, by go_num, hlt, ?_⟩
          rw [TK.out, show ([0, 255] : List UInt8) = [0] ++ [255] from rfl, ← List.append_assoc]
          exact N2.out
        case measure => simp [intOf]; omega
      · have h0n : ¬ s[k].toNat = 0 := fun e => h0 (UInt8.toNat_inj.1 e)
        have h0b : ((s[k].toNat : Int) == 0) = false := by simp; omega
        rw [if_neg h0] at TK
        clear h0
        go_wp2_with (at_builtin; refine append_some wr rfl (.tmp 11) (.tmp 15) 60 rfl w.heap.size 5 i0 (.int .u8 0) 1 Tryd.underlying60 hi hz0 hz1 hz2 rfl _ _ 1 _ rfl BX.out.own [byteV s[k]] _ rfl rfl rfl ?c2 ?c3 ?c4 ?c5 ?_ ?c6)
        case c2 => intro u hu; simp at hu; subst hu; rfl
        case c3 => unfold maxLen; omega
        case c4 => omega
        case c5 => omega
        case c6 => rfl
        intro v1 w1 hown1 hbel1 hg1
        have N1 := box (grown6s BX.out (n := L.length + 1) (m := [s[k]]) (zs := [byteV s[k]]) rfl (by simpa using hown1) rfl hbel1 hg1)
        clear hown1 hbel1 hg1
        go_wp2_with fail
        go_roundw
        case rel =>
          refine ⟨k + 1, by go_num, hlt, ?_⟩
          rw [TK.out]
          exact N1.out
        case measure => simp [intOf]; omega
    · obtain rfl : k = s.size := by omega
      have hL : s.data.toList.take s.size = s.data.toList := List.take_of_length_le (Nat.le_refl _)
      rw [hL] at BX LB
      obtain ⟨L, hL2⟩ : ∃ L, Kl.esc s.data.toList = L := ⟨_, rfl⟩
      rw [hL2] at BX LB
      have HL2 := box hL2
      clear hL hL2
      go_wp2_with (at_builtin; refine append_some wr rfl (.tmp 24) (.tmp 25) 60 rfl w.heap.size 5 i0 (.int .u8 0) 1 Tryd.underlying60 hi hz0 hz1 hz2 rfl _ _ 2 _ rfl BX.out.own [.int .u8 0, .int .u8 1] _ rfl rfl rfl ?e2 ?e3 ?e4 ?e5 ?_ ?e6)
      case e2 => intro u hu; simp at hu; rcases hu with rfl | rfl <;> rfl
      case e3 => unfold maxLen; omega
      case e4 => omega
      case e5 => omega
      case e6 => rfl
      intro v1 w1 hown1 hbel1 hg1
      have N1 := box (grown6s BX.out (n := L.length + 2) (m := [0, 1]) (zs := [.int .u8 0, .int .u8 1]) rfl (by simpa using hown1) rfl hbel1 hg1)
      have hcv := str_of_row (L ++ [0, 1]) N1.out.own
      have BB := box N1.out.below
      clear hown1 hbel1 hg1 BX N1
      go_wp2_with fail
      go_ret
      exact ⟨by rw [HL2.out]; rfl, BB.out⟩
end Go.Proofs.YtafialodjnjihaaDoor
