/- KeyTells: which key any row has, or that it has none; which row any bytes are the key of; what is above all that begin with some bytes. The walk of the law. Conditions: utf8's two tables read as the program lays them; MaxLen's cell holds a number. -/
import Derived.Test.YtafialodjnjihaaDoorAlive06
import Derived.Test.YtafialodjnjihaaDoorRefGet
namespace Go.Proofs.YtafialodjnjihaaDoor
open Go Go.RowKit Go.BigFrame
set_option maxRecDepth 100000
set_option linter.unusedVariables false

theorem get_same {s : ByteArray} {n n' : Nat} {l l' : List Val} {E E' : Int} (h1 : l.length = n) (h2 : l'.length = n')
    (h : (E = 0 ∧ Good l ∧ keyL l = s.data.toList) ∨ (E = 7 ∧ n = 0 ∧ ∀ m, Good m → keyL m ≠ s.data.toList))
    (h' : (E' = 0 ∧ Good l' ∧ keyL l' = s.data.toList) ∨ (E' = 7 ∧ n' = 0 ∧ ∀ m, Good m → keyL m ≠ s.data.toList)) : l' = l ∧ E' = E ∧ n' = n := by
  rcases h with ⟨rfl, hg, hk⟩ | ⟨rfl, rfl, hno⟩
  · rcases h' with ⟨rfl, hg', hk'⟩ | ⟨_, _, hno'⟩
    · obtain rfl := keyL_inj hg'.each hg.each (hk'.trans hk.symm)
      exact ⟨rfl, rfl, h2.symm.trans h1⟩
    · exact absurd hk (hno' l hg)
  · rcases h' with ⟨_, hg', hk'⟩ | ⟨rfl, rfl, _⟩
    · exact absurd hk' (hno l' hg')
    · rw [List.eq_nil_of_length_eq_zero h1, List.eq_nil_of_length_eq_zero h2]
      exact ⟨rfl, rfl, rfl⟩

set_option maxHeartbeats 16000000 in
theorem keyTells_walk {w : World} (a : Option Addr) (n c : Nat) (xs : List Val) (hr : Vals w a n xs ∧ n ≤ c ∧ c ≤ maxLen ∧ (a = none → c = 0)) (s : ByteArray) (hs : s.size ≤ 140737488355328) (hT : Tabs6 w) :
    Calls Tryd.prog 7 #[.slice a n c, .string s] w fun e w' => e = .returned (.bool true) ∧ Below w.heap.size w w' := by
  have HT := box hT
  have V := box hr.1
  have NIL := box hr.2.2.2
  have L1 := box (long_any a n c xs w V.out)
  have B0 := box (Below.refl w.heap.size w)
  clear hr hT
  go_enter Tryd.func7, Tryd.ntmps7
  go_wp2_with fail
  refine L1.out.mono ?_
  rintro e w1 ⟨B, rfl, hB, rfl⟩
  cases B with
  | true =>
    go_wp2_with fail
    refine (alive06 _ (HT.out.below B0.out)).mono ?_
    rintro e wz ⟨rfl, hbz⟩
    have BZ := box (B0.out.trans (hbz.mono B0.out.size))
    clear hbz
    go_wp2_with fail
    go_ret
    exact ⟨rfl, BZ.out⟩
  | false =>
    have hn := hB rfl
    clear hB L1
    by_cases h16 : (16384 : Int) < (s.size : Int)
    · go_wp2_with fail
      refine (alive06 _ (HT.out.below B0.out)).mono ?_
      rintro e wz ⟨rfl, hbz⟩
      have BZ := box (B0.out.trans (hbz.mono B0.out.size))
      clear hbz
      go_wp2_with fail
      go_ret
      exact ⟨rfl, BZ.out⟩
    · have C1 := box (copy_any a n c xs w V.out NIL.out hn)
      go_wp2_with fail
      refine C1.out.mono ?_
      rintro e w1 ⟨a1, c1, rfl, hv1, hb1⟩
      have B1 := box hb1
      have V1 := box hv1
      have P1 := box (put_any a1 n c1 xs w1 hv1 (HT.out.below hb1))
      have okx : ∀ x ∈ xs, x.Ok := fun x hx => (hv1.2.2.1 x hx).1
      have EB : Box (goodB xs = true → Good xs) := box (fun h => good_of h okx)
      obtain ⟨G, hG⟩ : ∃ G, goodB xs = G := ⟨_, rfl⟩
      have HP : Box (putS xs = if G = true then ⟨(keyL xs).toArray⟩ else ⟨#[]⟩) := box (by rw [← hG]; rfl)
      have HE : Box (putE xs = if G = true then 0 else 2) := box (by rw [← hG]; rfl)
      have CM := box (fun W (hb : Below w.heap.size w W) => refmay_any a n c xs W (vals_below V.out hb) (HT.out.below hb).tabs)
      rw [hG] at CM EB
      clear C1 hv1 hb1 okx hG
      cases G with
      | true =>
        have e1 : putS xs = ⟨(keyL xs).toArray⟩ := HP.out
        have e2 : putE xs = 0 := HE.out
        rw [e1, e2] at P1
        have CR := box (fun W (hb : Below w.heap.size w W) => refput_any a n c xs W (vals_below V.out hb) (EB.out rfl))
        obtain ⟨P, hP⟩ : ∃ P : ByteArray, (⟨(keyL xs).toArray⟩ : ByteArray) = P := ⟨_, rfl⟩
        rw [hP] at P1 CR
        clear HP HE e1 e2 hP EB
        go_wp2_with fail
        refine P1.out.mono ?_
        rintro e w2 ⟨rfl, hb2⟩
        have B2 := box (B1.out.trans (hb2.mono B1.out.size))
        have SM := box (refsame_any a1 a n c1 c xs w2 (vals_below V1.out hb2) (vals_below V.out B2.out))
        clear P1 hb2 V1
        go_wp2_with fail
        refine SM.out.mono ?_
        rintro e w3 ⟨rfl, q, rfl⟩
        have B3 := box (Below.grown B2.out (Only.below (below_drewN (Below.refl w2.heap.size w2) q) none) B2.out.size (by simp))
        clear SM
        go_wp2_with fail
        refine (CM.out _ B3.out).mono ?_
        rintro e w4 ⟨rfl, hb4⟩
        have B4 := box (B3.out.trans (hb4.mono B3.out.size))
        clear hb4 CM
        go_wp2_with fail
        refine (CR.out _ B4.out).mono ?_
        rintro e w5 ⟨rfl, hb5⟩
        have B5 := box (B4.out.trans (hb5.mono B4.out.size))
        clear hb5 CR
        go_wp2_with fail
        refine (get_any s _ (by omega) (HT.out.below B5.out)).mono ?_
        rintro e w7 ⟨a7, n7, c7, l7, E7, rfl, hv7, _, hb7, hE7⟩
        have B7 := box (B5.out.trans (hb7.mono B5.out.size))
        have V7 := box hv7
        have G7 := box hE7
        clear hb7 hv7 hE7
        go_wp2_with fail
        refine (refget_any s _ (by omega) (HT.out.below B7.out).tabs).mono ?_
        rintro e w8 ⟨a8, n8, c8, l8, E8, rfl, hv8, _, hb8, hE8⟩
        have B8 := box (B7.out.trans (hb8.mono B7.out.size))
        have V8 := box hv8
        have V7b := box (vals_below V7.out hb8)
        obtain ⟨rfl, rfl, rfl⟩ := get_same V7.out.1 hv8.1 G7.out hE8
        clear hb8 hv8 hE8 V7 G7
        go_wp2_with fail
        refine (after_any s _ (by omega)).mono ?_
        rintro e w9 ⟨n9, hn9, rfl, hb9⟩
        have B9 := box (B8.out.trans (hb9.mono B8.out.size))
        have V7c := box (vals_below V7b.out hb9)
        have V8c := box (vals_below V8.out hb9)
        have T9 := box hn9
        obtain ⟨AT, hAT⟩ : ∃ AT, afterT s n9 = AT := ⟨_, rfl⟩
        obtain ⟨IS, hIS⟩ : ∃ IS, decide (n9 ≠ 0) = IS := ⟨_, rfl⟩
        rw [hAT, hIS]
        have HAT := box hAT
        have HIS := box hIS
        clear hb9 hn9 V7b V8 hAT hIS
        go_wp2_with fail
        refine (refafter_any s _ (by omega)).mono ?_
        rintro e w10 ⟨n10, hn10, rfl, hb10⟩
        have B10 := box (B9.out.trans (hb10.mono B9.out.size))
        have V7d := box (vals_below V7c.out hb10)
        have V8d := box (vals_below V8c.out hb10)
        rw [hn10.one T9.out, HAT.out, HIS.out]
        clear hb10 hn10 T9 V7c V8c HAT HIS
        cases IS with
        | true =>
          have SM := box (refsame_any a7 a8 n8 c7 c8 l8 w10 V7d.out V8d.out)
          go_wp2_with fail
          refine SM.out.mono ?_
          rintro e w11 ⟨rfl, q, rfl⟩
          have B11 := box (Below.grown B10.out (Only.below (below_drewN (Below.refl w10.heap.size w10) q) none) B10.out.size (by simp))
          clear SM
          go_wp2_with fail
          refine (alive06 _ (HT.out.below B11.out)).mono ?_
          rintro e wz ⟨rfl, hbz⟩
          have BZ := box (B11.out.trans (hbz.mono B11.out.size))
          clear hbz
          go_wp2_with fail
          go_ret
          exact ⟨rfl, BZ.out⟩
        | false =>
          have SM := box (refsame_any a7 a8 n8 c7 c8 l8 w10 V7d.out V8d.out)
          go_wp2_with fail
          refine SM.out.mono ?_
          rintro e w11 ⟨rfl, q, rfl⟩
          have B11 := box (Below.grown B10.out (Only.below (below_drewN (Below.refl w10.heap.size w10) q) none) B10.out.size (by simp))
          clear SM
          go_wp2_with fail
          refine (alive06 _ (HT.out.below B11.out)).mono ?_
          rintro e wz ⟨rfl, hbz⟩
          have BZ := box (B11.out.trans (hbz.mono B11.out.size))
          clear hbz
          go_wp2_with fail
          go_ret
          exact ⟨rfl, BZ.out⟩
      | false =>
        have e1 : putS xs = ⟨#[]⟩ := HP.out
        have e2 : putE xs = 2 := HE.out
        rw [e1, e2] at P1
        clear HP HE e1 e2 EB
        go_wp2_with fail
        refine P1.out.mono ?_
        rintro e w2 ⟨rfl, hb2⟩
        have B2 := box (B1.out.trans (hb2.mono B1.out.size))
        have SM := box (refsame_any a1 a n c1 c xs w2 (vals_below V1.out hb2) (vals_below V.out B2.out))
        clear P1 hb2 V1
        go_wp2_with fail
        refine SM.out.mono ?_
        rintro e w3 ⟨rfl, q, rfl⟩
        have B3 := box (Below.grown B2.out (Only.below (below_drewN (Below.refl w2.heap.size w2) q) none) B2.out.size (by simp))
        clear SM
        go_wp2_with fail
        refine (CM.out _ B3.out).mono ?_
        rintro e w4 ⟨rfl, hb4⟩
        have B4 := box (B3.out.trans (hb4.mono B3.out.size))
        clear hb4 CM
        go_wp2_with fail
        refine (get_any s _ (by omega) (HT.out.below B4.out)).mono ?_
        rintro e w7 ⟨a7, n7, c7, l7, E7, rfl, hv7, _, hb7, hE7⟩
        have B7 := box (B4.out.trans (hb7.mono B4.out.size))
        have V7 := box hv7
        have G7 := box hE7
        clear hb7 hv7 hE7
        go_wp2_with fail
        refine (refget_any s _ (by omega) (HT.out.below B7.out).tabs).mono ?_
        rintro e w8 ⟨a8, n8, c8, l8, E8, rfl, hv8, _, hb8, hE8⟩
        have B8 := box (B7.out.trans (hb8.mono B7.out.size))
        have V8 := box hv8
        have V7b := box (vals_below V7.out hb8)
        obtain ⟨rfl, rfl, rfl⟩ := get_same V7.out.1 hv8.1 G7.out hE8
        clear hb8 hv8 hE8 V7 G7
        go_wp2_with fail
        refine (after_any s _ (by omega)).mono ?_
        rintro e w9 ⟨n9, hn9, rfl, hb9⟩
        have B9 := box (B8.out.trans (hb9.mono B8.out.size))
        have V7c := box (vals_below V7b.out hb9)
        have V8c := box (vals_below V8.out hb9)
        have T9 := box hn9
        obtain ⟨AT, hAT⟩ : ∃ AT, afterT s n9 = AT := ⟨_, rfl⟩
        obtain ⟨IS, hIS⟩ : ∃ IS, decide (n9 ≠ 0) = IS := ⟨_, rfl⟩
        rw [hAT, hIS]
        have HAT := box hAT
        have HIS := box hIS
        clear hb9 hn9 V7b V8 hAT hIS
        go_wp2_with fail
        refine (refafter_any s _ (by omega)).mono ?_
        rintro e w10 ⟨n10, hn10, rfl, hb10⟩
        have B10 := box (B9.out.trans (hb10.mono B9.out.size))
        have V7d := box (vals_below V7c.out hb10)
        have V8d := box (vals_below V8c.out hb10)
        rw [hn10.one T9.out, HAT.out, HIS.out]
        clear hb10 hn10 T9 V7c V8c HAT HIS
        cases IS with
        | true =>
          have SM := box (refsame_any a7 a8 n8 c7 c8 l8 w10 V7d.out V8d.out)
          go_wp2_with fail
          refine SM.out.mono ?_
          rintro e w11 ⟨rfl, q, rfl⟩
          have B11 := box (Below.grown B10.out (Only.below (below_drewN (Below.refl w10.heap.size w10) q) none) B10.out.size (by simp))
          clear SM
          go_wp2_with fail
          refine (alive06 _ (HT.out.below B11.out)).mono ?_
          rintro e wz ⟨rfl, hbz⟩
          have BZ := box (B11.out.trans (hbz.mono B11.out.size))
          clear hbz
          go_wp2_with fail
          go_ret
          exact ⟨rfl, BZ.out⟩
        | false =>
          have SM := box (refsame_any a7 a8 n8 c7 c8 l8 w10 V7d.out V8d.out)
          go_wp2_with fail
          refine SM.out.mono ?_
          rintro e w11 ⟨rfl, q, rfl⟩
          have B11 := box (Below.grown B10.out (Only.below (below_drewN (Below.refl w10.heap.size w10) q) none) B10.out.size (by simp))
          clear SM
          go_wp2_with fail
          refine (alive06 _ (HT.out.below B11.out)).mono ?_
          rintro e wz ⟨rfl, hbz⟩
          have BZ := box (B11.out.trans (hbz.mono B11.out.size))
          clear hbz
          go_wp2_with fail
          go_ret
          exact ⟨rfl, BZ.out⟩
end Go.Proofs.YtafialodjnjihaaDoor
