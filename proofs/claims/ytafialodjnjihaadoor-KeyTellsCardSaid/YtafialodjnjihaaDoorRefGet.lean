/- The reference's Get. Conditions: the text is at most 65536 bytes long; utf8's two tables read as the program lays them. -/
import Derived.Test.YtafialodjnjihaaDoorNextAny
namespace Go.Proofs.YtafialodjnjihaaDoor
open Go Go.RowKit Go.BigFrame
set_option maxRecDepth 100000
set_option linter.unusedVariables false

def strLen : Value → Nat
  | .string t => t.size
  | _ => 0
structure RefAt (w : World) (s : ByteArray) (wr : World) (v : Value) (t : ByteArray) (xs : List Val) : Prop where
  own : wr.ownsRow w.heap.size 24 4 v xs.length (flat xs)
  below : Below w.heap.size w wr
  size : t.size ≤ s.size
  len : xs.length ≤ 8
  ok : ∀ x ∈ xs, x.Ok ∧ x.text.size ≤ 140737488355328
  reads : Reads s.data.toList t.data.toList false xs
theorem Reads.full {s rest : List UInt8} {bad : Bool} {l : List Val} (h : Reads s rest bad l) (hl : 8 ≤ l.length) (hr : rest ≠ []) (m : List Val) (hm : Good m) : keyL m ≠ s := by
  intro hs
  obtain ⟨_, m2, rfl, h2⟩ := h m hm hs
  have := hm.len
  cases m2 with
  | nil => exact hr h2
  | cons x m2 => simp at this; omega
theorem own_call {w w1 : World} {base size n : Nat} {e : TypeId} {v : Value} {xs : List Value} (h : w.ownsRow base e size v n xs) (hb : Below w.heap.size w w1) : w1.ownsRow base e size v n xs :=
  own_kept h (Only.below hb none) (by
    rcases h.2 with ⟨rfl, _⟩ | ⟨g, cap, cur, rfl, _⟩
    · exact .inl rfl
    · exact .inr (by simp [Value.ownBlock]))
set_option maxHeartbeats 16000000 in
theorem refget_any (s : ByteArray) (w : World) (hs : s.size ≤ 65536) (hT : Tabs w) : Calls Tryd.prog 37 #[.string s] w (GetSays s w) := by
  have HT := box hT
  clear hT
  go_enter Tryd.func37, Tryd.ntmps37
  go_wp2_with fail
  go_loopw [4, 5] (fun v r wr => ∃ (t : ByteArray) (xs : List Val), r = .string t ∧ RefAt w s wr v t xs) (fun _ r _ => strLen r)
  case atStart => exact ⟨s, [], rfl, World.ownsRow_nil _ _ _ _, Below.refl _ _, Nat.le_refl _, Nat.zero_le _, by simp, Reads.start _⟩
  case round =>
    obtain ⟨t, xs, rfl, hG⟩ := hrel
    obtain ⟨a0, cap0, rfl, hv, hnil⟩ := vals_own' hG.own rfl (by have := hG.len; omega) hG.ok
    have OW := box hG.own
    have BW := box hG.below
    have RD := box hG.reads
    have OKS := box hG.ok
    have hlen := hG.len
    have hsize := hG.size
    have HV := box hv
    have HN := box hnil
    have hbase := hG.below.size
    clear hG hv hnil
    by_cases hp : 0 < t.size
    · have hpI : (0 : Int) < (t.size : Int) := by omega
      have htne : Box (t.data.toList ≠ []) := box (fun e => by have := list_size t; rw [e] at this; simp at this; omega)
      have C59 := box (next_any t wr (by omega) hp)
      go_wp2_with fail
      refine C59.out.mono ?_
      rintro e w1 ⟨y, hy, hb, ⟨rfl, hno⟩ | ⟨N, rfl, hN1, hN2, hR⟩⟩
      · have B1 := box (Below.grown BW.out (Only.below hb none) BW.out.size (by simp))
        have NO := box (fun m hm => hno _ _ RD.out m hm)
        clear hb hno C59
        obtain ⟨kk, ii, rr, tt⟩ := y
        unfold Val.v
        dsimp only
        go_wp2_with fail
        go_ret2
        exact get_none (B1.out.alloc B1.out.size _) NO.out
      · have O1 := box (own_call OW.out hb)
        have B1 := box (Below.grown BW.out (Only.below hb none) BW.out.size (by simp))
        have HY := box hy
        have R1 := box (hR _ _ RD.out)
        clear hb hR C59 hy
        by_cases h8 : xs.length = 8
        · have NO := box (fun m hm => RD.out.full (by omega) htne.out m hm)
          have h8I : ((xs.length : Int) == 8) = true := by simp; omega
          clear R1 HY
          obtain ⟨kk, ii, rr, tt⟩ := y
          unfold Val.v
          dsimp only
          go_wp2_with fail
          go_ret2
          exact get_none (B1.out.alloc B1.out.size _) NO.out
        · have h8I : ((xs.length : Int) == 8) = false := by simp; omega
          have hn0 : ¬ (N : Int) < 0 := by omega
          have hN2I : (N : Int) ≤ (t.size : Int) := by omega
          obtain ⟨t2, ht2⟩ : ∃ t2, t.extract N t.size = t2 := ⟨_, rfl⟩
          have t2s : t2.size ≤ t.size - N := by rw [← ht2, ByteArray.size_extract]; omega
          have e2 : t2.data.toList = t.data.toList.drop N := by rw [← ht2, Lib.extract_to_end]
          rw [← e2] at R1
          have T2S := box t2s
          have h1s := B1.out.size
          clear e2 t2s
          obtain ⟨kk, ii, rr, tt⟩ := y
          unfold Val.v
          dsimp only
          have O2 := box (O1.out.alloc (.cells #[.int .u8 kk, .int .i64 ii, .int .u64 rr, .string tt] 24))
          have B2 := box (B1.out.alloc B1.out.size (.cells #[.int .u8 kk, .int .i64 ii, .int .u64 rr, .string tt] 24))
          go_wp2_with (at_builtin; refine append_val (w := w1.alloc (.cells #[.int .u8 kk, .int .i64 ii, .int .u64 rr, .string tt] 24)) rfl (.tmp 24) (.tmp 26) rfl w.heap.size _ _ xs rfl O2.out ⟨kk, ii, rr, tt⟩ #[.int .u8 kk, .int .i64 ii, .int .u64 rr, .string tt] rfl (w1.heap.size + 1) rfl (by simp) (by omega) ?c5 ?_ ?c6)
          case c5 => omega
          case c6 => rfl
          intro v3 w3 ho hb3 hg3
          have O3 := box ho
          have B3 := box (B2.out.trans hb3)
          clear ho hb3 hg3
          go_wp2_with fail
          go_roundw
          case rel =>
            exact ⟨t2, xs ++ [⟨kk, ii, rr, tt⟩], rfl, by simpa using O3.out, B3.out, by have := T2S.out; omega, by simp; omega, fun x hx => by
              rcases List.mem_append.1 hx with h | h
              · exact OKS.out x h
              · obtain rfl := List.mem_singleton.1 h; exact HY.out, R1.out⟩
          case measure => have := T2S.out; simp only [strLen]; omega
    · have ht0 : (t.size : Int) = 0 := by omega
      have EX : Box (∀ m, Good m → keyL m = s.data.toList → m = xs) := box (fun m hm hs => by
        have h := RD.out
        rw [size0_nil (t := t) (by omega)] at h
        exact (h.all m hm hs).2)
      have C34 := box (refmay_any a0 xs.length cap0 xs wr HV.out (HT.out.below BW.out))
      have OKX := box (fun x hx => (OKS.out x hx).1)
      obtain ⟨G, hG⟩ : ∃ G, goodB xs = G := ⟨_, rfl⟩
      rw [hG] at C34
      clear hp RD OKS
      go_wp2_with fail
      refine C34.out.mono ?_
      rintro e w1 ⟨rfl, hb⟩
      have V1 := box (vals_below HV.out hb)
      have B1 := box (Below.grown BW.out (Only.below hb none) BW.out.size (by simp))
      clear hb C34
      cases G with
      | false =>
        have NG : Box (¬ Good xs) := box (fun h => by rw [h.b] at hG; cases hG)
        clear hG
        go_wp2_with fail
        go_ret2
        exact get_none B1.out (fun m hm hs => by obtain rfl := EX.out m hm hs; exact NG.out hm)
      | true =>
        have GD := box (good_of hG OKX.out)
        have C35 := box (refput_any a0 xs.length cap0 xs w1 V1.out GD.out)
        obtain ⟨P, hP⟩ : ∃ P : ByteArray, (⟨(keyL xs).toArray⟩ : ByteArray) = P := ⟨_, rfl⟩
        rw [hP] at C35
        have HP := box hP
        clear hG hP
        by_cases heq : P = s
        · obtain ⟨he1, he2⟩ := text_eq' heq
          have KE : Box (keyL xs = s.data.toList) := box (by rw [← heq, ← HP.out])
          clear heq
          go_wp2_with fail
          refine C35.out.mono ?_
          rintro e w2 ⟨rfl, hb⟩
          have V2 := box (vals_below V1.out hb)
          have B2 := box (Below.grown B1.out (Only.below hb none) B1.out.size (by simp))
          clear hb C35
          go_wp2_with fail
          go_ret2
          exact ⟨a0, _, cap0, xs, 0, rfl, V2.out, HN.out, B2.out, .inl ⟨rfl, GD.out, KE.out⟩⟩
        · obtain ⟨he1, he2⟩ := text_ne' heq
          have NE : Box (keyL xs ≠ s.data.toList) := box (fun e => heq (by rw [← HP.out, e]))
          clear heq
          go_wp2_with fail
          refine C35.out.mono ?_
          rintro e w2 ⟨rfl, hb⟩
          have B2 := box (Below.grown B1.out (Only.below hb none) B1.out.size (by simp))
          clear hb C35
          go_wp2_with fail
          go_ret2
          exact get_none B2.out (fun m hm hs => by obtain rfl := EX.out m hm hs; exact NE.out hs)
end Go.Proofs.YtafialodjnjihaaDoor
