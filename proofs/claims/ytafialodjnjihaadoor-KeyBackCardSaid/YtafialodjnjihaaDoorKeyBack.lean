/- KeyBack: what was put is got, and of what is got the key is what it was got of. The walk of the law. Conditions: utf8's two tables read as the program lays them; MaxLen's cell holds a number. -/
import Derived.Test.YtafialodjnjihaaDoorAlive06
import Derived.Test.YtafialodjnjihaaDoorAfterLaw
namespace Go.Proofs.YtafialodjnjihaaDoor
open Go Go.RowKit Go.BigFrame
set_option maxRecDepth 100000
set_option linter.unusedVariables false

def BackSays (w : World) (xs : List Val) (e : Ending) (w' : World) : Prop := ∃ a c, e = .returned (.tuple #[.slice a xs.length c, .int .i64 0]) ∧ Vals w' a xs.length xs ∧ Below w.heap.size w w'
theorem key_size {xs : List Val} (h : Good xs) : (⟨(keyL xs).toArray⟩ : ByteArray).size ≤ 65536 := by
  have h1 := keyL_len h.each
  have h2 := h.len
  have h3 : (⟨(keyL xs).toArray⟩ : ByteArray).size = (keyL xs).length := by simp [ByteArray.size]
  omega
theorem get_back (xs : List Val) (h : Good xs) (w : World) (hT : Tabs6 w) : Calls Tryd.prog 36 #[.string ⟨(keyL xs).toArray⟩] w (BackSays w xs) := by
  refine (get_any _ w (key_size h) hT).mono ?_
  rintro e w' ⟨a, n, c, l, E, rfl, hv, _, hb, hE⟩
  rcases hE with ⟨rfl, hg, hk⟩ | ⟨_, _, hno⟩
  · obtain rfl : l = xs := keyL_inj hg.each h.each hk
    obtain rfl := hv.1
    exact ⟨a, c, rfl, hv, hb⟩
  · exact absurd rfl (hno xs h)

set_option maxHeartbeats 16000000 in
theorem keyBack_walk {w : World} (a : Option Addr) (n c : Nat) (xs : List Val) (hr : Vals w a n xs ∧ n ≤ c ∧ c ≤ maxLen ∧ (a = none → c = 0)) (s : ByteArray) (hs : s.size ≤ 140737488355328) (hT : Tabs6 w) :
    Calls Tryd.prog 8 #[.slice a n c, .string s] w fun e w' => e = .returned (.bool true) ∧ Below w.heap.size w w' := by
  have HT := box hT
  have V := box hr.1
  have NIL := box hr.2.2.2
  have L1 := box (long_any a n c xs w V.out)
  have B0 := box (Below.refl w.heap.size w)
  clear hr hT
  go_enter Tryd.func8, Tryd.ntmps8
  go_wp2_with fail
  refine L1.out.mono ?_
  rintro e w1 ⟨B, rfl, hB, rfl⟩
  cases B with
  | true =>
    go_wp2_with fail
    refine (alive06 _ (HT.out.below B0.out)).mono ?_
    rintro e wz ⟨rfl, hbz⟩
    have BZ := box (B0.out.trans (hbz.mono B0.out.size))
    clear hbz
    go_wp2_with fail
    go_ret
    exact ⟨rfl, BZ.out⟩
  | false =>
    have hn := hB rfl
    clear hB L1
    by_cases h16 : (16384 : Int) < (s.size : Int)
    · go_wp2_with fail
      refine (alive06 _ (HT.out.below B0.out)).mono ?_
      rintro e wz ⟨rfl, hbz⟩
      have BZ := box (B0.out.trans (hbz.mono B0.out.size))
      clear hbz
      go_wp2_with fail
      go_ret
      exact ⟨rfl, BZ.out⟩
    · have C1 := box (copy_any a n c xs w V.out NIL.out hn)
      go_wp2_with fail
      refine C1.out.mono ?_
      rintro e w1 ⟨a1, c1, rfl, hv1, hb1⟩
      have B1 := box hb1
      have P1 := box (put_any a1 n c1 xs w1 hv1 (HT.out.below hb1))
      have okx : ∀ x ∈ xs, x.Ok := fun x hx => (hv1.2.2.1 x hx).1
      obtain ⟨P, E, hP, hE, hPE⟩ := put_cases xs okx
      rw [hP, hE] at P1
      clear C1 hv1 hb1 hP hE okx
      go_wp2_with fail
      refine P1.out.mono ?_
      rintro e w2 ⟨rfl, hb2⟩
      have B2 := box (B1.out.trans (hb2.mono B1.out.size))
      clear P1 hb2
      rcases hPE with ⟨gx, rfl, rfl⟩ | ⟨_, rfl⟩
      · have C3 := box (get_back xs gx w2 (HT.out.below B2.out))
        obtain ⟨P, hP⟩ : ∃ P : ByteArray, (⟨(keyL xs).toArray⟩ : ByteArray) = P := ⟨_, rfl⟩
        rw [hP] at C3 ⊢
        clear hP gx
        go_wp2_with fail
        refine C3.out.mono ?_
        rintro e w3 ⟨a3, c3, rfl, hv3, hb3⟩
        have B3 := box (B2.out.trans (hb3.mono B2.out.size))
        have hln := V.out.1
        rw [hln] at hv3 ⊢
        have SM := box (refsame_any a3 a n c3 c xs w3 hv3 (vals_below V.out B3.out))
        clear hv3 hb3 C3
        go_wp2_with fail
        refine SM.out.mono ?_
        rintro e w4 ⟨rfl, q, rfl⟩
        have B4 := box (Below.grown B3.out (Only.below (below_drewN (Below.refl w3.heap.size w3) q) none) B3.out.size (by simp))
        clear SM
        go_wp2_with fail
        refine (get_any s _ (by omega) (HT.out.below B4.out)).mono ?_
        rintro e w7 ⟨a7, n7, c7, l7, E7, rfl, hv7, hn7, hb7, hE7⟩
        have B7 := box (B4.out.trans (hb7.mono B4.out.size))
        clear hb7
        rcases hE7 with ⟨rfl, hg, hk⟩ | ⟨rfl, rfl, _⟩
        · have P7 := box (put_any a7 n7 c7 l7 w7 hv7 (HT.out.below B7.out))
          have e1 : putE l7 = 0 := by unfold putE; rw [if_pos hg.b]
          have e2 : putS l7 = s := by
            unfold putS; rw [if_pos hg.b]
            exact ByteArray.ext (Array.toList_inj.1 hk)
          rw [e1, e2] at P7
          clear hv7 hn7 hg hk e1 e2
          go_wp2_with fail
          refine P7.out.mono ?_
          rintro e w8 ⟨rfl, hb8⟩
          have B8 := box (B7.out.trans (hb8.mono B7.out.size))
          clear hb8 P7
          go_wp2_with fail
          refine (alive06 _ (HT.out.below B8.out)).mono ?_
          rintro e wz ⟨rfl, hbz⟩
          have BZ := box (B8.out.trans (hbz.mono B8.out.size))
          clear hbz
          go_wp2_with fail
          go_ret
          exact ⟨rfl, BZ.out⟩
        · clear hv7 hn7
          go_wp2_with fail
          refine (alive06 _ (HT.out.below B7.out)).mono ?_
          rintro e wz ⟨rfl, hbz⟩
          have BZ := box (B7.out.trans (hbz.mono B7.out.size))
          clear hbz
          go_wp2_with fail
          go_ret
          exact ⟨rfl, BZ.out⟩
      · go_wp2_with fail
        refine (get_any s _ (by omega) (HT.out.below B2.out)).mono ?_
        rintro e w7 ⟨a7, n7, c7, l7, E7, rfl, hv7, hn7, hb7, hE7⟩
        have B7 := box (B2.out.trans (hb7.mono B2.out.size))
        clear hb7
        rcases hE7 with ⟨rfl, hg, hk⟩ | ⟨rfl, rfl, _⟩
        · have P7 := box (put_any a7 n7 c7 l7 w7 hv7 (HT.out.below B7.out))
          have e1 : putE l7 = 0 := by unfold putE; rw [if_pos hg.b]
          have e2 : putS l7 = s := by
            unfold putS; rw [if_pos hg.b]
            exact ByteArray.ext (Array.toList_inj.1 hk)
          rw [e1, e2] at P7
          clear hv7 hn7 hg hk e1 e2
          go_wp2_with fail
          refine P7.out.mono ?_
          rintro e w8 ⟨rfl, hb8⟩
          have B8 := box (B7.out.trans (hb8.mono B7.out.size))
          clear hb8 P7
          go_wp2_with fail
          refine (alive06 _ (HT.out.below B8.out)).mono ?_
          rintro e wz ⟨rfl, hbz⟩
          have BZ := box (B8.out.trans (hbz.mono B8.out.size))
          clear hbz
          go_wp2_with fail
          go_ret
          exact ⟨rfl, BZ.out⟩
        · clear hv7 hn7
          go_wp2_with fail
          refine (alive06 _ (HT.out.below B7.out)).mono ?_
          rintro e wz ⟨rfl, hbz⟩
          have BZ := box (B7.out.trans (hbz.mono B7.out.size))
          clear hbz
          go_wp2_with fail
          go_ret
          exact ⟨rfl, BZ.out⟩
end Go.Proofs.YtafialodjnjihaaDoor
