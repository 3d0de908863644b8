/- The reference's untext: the text that a key goes on with. Conditions: texts are at most 65536 bytes long. -/
import Derived.Test.YtafialodjnjihaaDoorRefText
namespace Go.Proofs.YtafialodjnjihaaDoor
open Go Go.RowKit Go.BigFrame
set_option maxRecDepth 100000
set_option linter.unusedVariables false

/-- What untext tells. -/
def UntextSays (s : ByteArray) (w : World) (e : Ending) (w' : World) : Prop :=
  ∃ (t : ByteArray) (n : Int), e = .returned (.tuple #[.string t, .int .i64 n]) ∧ t.size ≤ s.size ∧ (n = -1 ∨ (2 ≤ n ∧ n ≤ s.size)) ∧ Below w.heap.size w w' ∧
    ∀ l r, s.data.toList = Kl.esc l ++ 0 :: 1 :: r → t = ⟨l.toArray⟩ ∧ n = (Kl.esc l).length + 2
theorem untext_no {s : ByteArray} {w w' : World} (hb : Below w.heap.size w w') (h : ∀ l r, s.data.toList ≠ Kl.esc l ++ 0 :: 1 :: r) : UntextSays s w (.returned (.tuple #[.string ⟨#[]⟩, .int .i64 (-1)])) w' :=
  ⟨⟨#[]⟩, -1, rfl, Nat.zero_le _, .inl rfl, hb, fun l r e => absurd e (h l r)⟩
set_option maxHeartbeats 4000000 in
theorem untext_any (s : ByteArray) (w : World) (hs : s.size ≤ 65536) : Calls Tryd.prog 81 #[.string s] w (UntextSays s w) := by
  obtain ⟨i0, hi, hz0, hz1, hz2⟩ := info_parts infoB
  have hlen : s.data.toList.length = s.size := rfl
  go_enter Tryd.func81, Tryd.ntmps81
  go_wp2_with fail
  go_loopw [4, 5] (fun r i wr => ∃ (k : Nat) (L : List UInt8), i = .int .i64 k ∧ k ≤ s.size ∧ Box (k = (Kl.esc L).length ∧ s.data.toList = Kl.esc L ++ s.data.toList.drop k) ∧ Bytes6 w.heap.size w wr r L) (fun _ i _ => s.size - (intOf i).toNat)
  case atStart => exact ⟨0, [], rfl, Nat.zero_le _, box ⟨rfl, rfl⟩, World.ownsRow_nil _ _ _ _, Below.refl _ _, fun _ _ h => h⟩
  case round =>
    obtain ⟨k, L, rfl, hk, HK, hB⟩ := hrel
    have BX := box hB
    have hsz := hB.below.size
    clear hB
    have LK : L.length ≤ k := by rw [HK.out.1]; exact (Kl.esc_len L).1
    by_cases hlt : k + 1 < s.size
    · have hk0 : k < s.size := by omega
      have hkI : (k : Int) < (s.size : Int) := by omega
      have hk1I : (k : Int) + 1 < (s.size : Int) := by omega
      have DR := box (drop_cons s k hk0)
      have DR2 := box (drop_cons s (k + 1) hlt)
      have hc256 : s[k].toNat < 256 := s[k].toNat_lt
      have hd256 : s[k + 1].toNat < 256 := s[k + 1].toNat_lt
      by_cases h0 : s[k] = 0
      · have h0n : s[k].toNat = 0 := by rw [h0]; rfl
        have SP : Box (∀ l r, s.data.toList = Kl.esc l ++ 0 :: 1 :: r → ∃ l2, l = L ++ l2 ∧ 0 :: s[k + 1] :: s.data.toList.drop (k + 1 + 1) = Kl.esc l2 ++ 0 :: 1 :: r) := box (fun l r h => by
          rw [HK.out.2] at h
          obtain ⟨l2, h1, h2⟩ := esc_split L l _ r h
          rw [DR.out, DR2.out, h0] at h2
          exact ⟨l2, h1, h2⟩)
        by_cases h1 : s[k + 1] = 1
        · have h1n : s[k + 1].toNat = 1 := by rw [h1]; rfl
          have hcv := str_of_row L BX.out.own
          have BB := box BX.out.below
          have H1 := box h1
          have KE := box HK.out.1
          have SZ : Box ((⟨L.toArray⟩ : ByteArray).size ≤ s.size) := box (by
            have : (⟨L.toArray⟩ : ByteArray).size = L.length := by simp [ByteArray.size]
            omega)
          clear h0 h1 BX HK
          go_wp2_with fail
          go_ret2
          refine ⟨⟨L.toArray⟩, (k : Int) + 2, rfl, SZ.out, .inr ⟨by omega, by omega⟩, BB.out, fun l r h => ?_⟩
          obtain ⟨l2, rfl, h2⟩ := SP.out l r h
          rw [H1.out] at h2
          rcases esc_zero_head h2 with ⟨_, rfl, _⟩ | h3
          · rw [List.append_nil]
            exact ⟨rfl, by rw [KE.out]⟩
          · exact absurd h3 (by decide)
        · have h1n : ¬ s[k + 1].toNat = 1 := fun e => h1 (UInt8.toNat_inj.1 e)
          have h1b : ((s[k + 1].toNat : Int) == 1) = false := by simp; omega
          by_cases h2 : s[k + 1] = 255
          · have h2n : s[k + 1].toNat = 255 := by rw [h2]; rfl
            have NX : Box (k + 1 + 1 = (Kl.esc (L ++ [0])).length ∧ s.data.toList = Kl.esc (L ++ [0]) ++ s.data.toList.drop (k + 1 + 1)) := box (by
              have e : Kl.esc [0] = [0, 255] := rfl
              rw [Kl.esc_app, e, List.length_append, ← HK.out.1]
              refine ⟨rfl, ?_⟩
              conv => lhs; rw [HK.out.2, DR.out, DR2.out, h0, h2]
              simp)
            clear h0 h1 h2 DR DR2 SP HK
            go_wp2_with (at_builtin; refine append_some wr rfl (.tmp 37) (.tmp 38) 60 rfl w.heap.size 5 i0 (.int .u8 0) 1 Tryd.underlying60 hi hz0 hz1 hz2 rfl _ _ 1 _ rfl BX.out.own [.int .u8 0] _ rfl rfl rfl ?c2 ?c3 ?c4 ?c5 ?_ ?c6)
            case c2 => intro u hu; simp at hu; subst hu; rfl
            case c3 => unfold maxLen; omega
            case c4 => omega
            case c5 => omega
            case c6 => rfl
            intro v1 w1 hown1 hbel1 hg1
            have N1 := box (grown6s BX.out (n := L.length + 1) (m := [0]) (zs := [.int .u8 0]) rfl (by simpa using hown1) rfl hbel1 hg1)
            clear hown1 hbel1 hg1
            go_wp2_with fail
            go_roundw
            case rel => exact ⟨k + 1 + 1, L ++ [0], by go_num, hlt, NX, N1.out⟩
            case measure => simp [intOf]; omega
          · have h2n : ¬ s[k + 1].toNat = 255 := fun e => h2 (UInt8.toNat_inj.1 e)
            have h2b : ((s[k + 1].toNat : Int) == 255) = false := by simp; omega
            have H1 := box h1
            have H2 := box h2
            have BB := box BX.out.below
            clear h0 h1 h2 DR DR2 HK BX
            go_wp2_with fail
            go_ret2
            refine untext_no BB.out (fun l r h => ?_)
            obtain ⟨l2, _, h2⟩ := SP.out l r h
            rcases esc_zero_head h2 with ⟨h3, _⟩ | h3
            · exact H1.out h3
            · exact H2.out h3
      · have h0n : ¬ s[k].toNat = 0 := fun e => h0 (UInt8.toNat_inj.1 e)
        have h0b : ((s[k].toNat : Int) == 0) = false := by simp; omega
        have NX : Box (k + 1 = (Kl.esc (L ++ [s[k]])).length ∧ s.data.toList = Kl.esc (L ++ [s[k]]) ++ s.data.toList.drop (k + 1)) := box (by
          have e : Kl.esc [s[k]] = [s[k]] := Kl.esc_ne h0 []
          rw [Kl.esc_app, e, List.length_append, ← HK.out.1]
          refine ⟨rfl, ?_⟩
          conv => lhs; rw [HK.out.2, DR.out]
          simp)
        clear h0 DR DR2 HK
        go_wp2_with (at_builtin; refine append_some wr rfl (.tmp 17) (.tmp 21) 60 rfl w.heap.size 5 i0 (.int .u8 0) 1 Tryd.underlying60 hi hz0 hz1 hz2 rfl _ _ 1 _ rfl BX.out.own [byteV s[k]] _ rfl rfl rfl ?c2 ?c3 ?c4 ?c5 ?_ ?c6)
        case c2 => intro u hu; simp at hu; subst hu; rfl
        case c3 => unfold maxLen; omega
        case c4 => omega
        case c5 => omega
        case c6 => rfl
        intro v1 w1 hown1 hbel1 hg1
        have N1 := box (grown6s BX.out (n := L.length + 1) (m := [s[k]]) (zs := [byteV s[k]]) rfl (by simpa using hown1) rfl hbel1 hg1)
        clear hown1 hbel1 hg1
        go_wp2_with fail
        go_roundw
        case rel => exact ⟨k + 1, L ++ [s[k]], by go_num, hk0, NX, N1.out⟩
        case measure => simp [intOf]; omega
    · have BB := box BX.out.below
      have HK2 := box HK.out.2
      have hltI : ¬ (k : Int) + 1 < (s.size : Int) := by omega
      clear BX HK
      go_wp2_with fail
      go_ret2
      refine untext_no BB.out (fun l r h => ?_)
      rw [HK2.out] at h
      obtain ⟨l2, _, h2⟩ := esc_split L l _ r h
      have := esc_short h2
      rw [List.length_drop] at this
      omega
end Go.Proofs.YtafialodjnjihaaDoor
