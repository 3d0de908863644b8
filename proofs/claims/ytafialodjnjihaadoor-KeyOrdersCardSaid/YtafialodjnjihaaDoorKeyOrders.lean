/- KeyOrders: keys are in the order of their rows, and a key begins another one just if its row does. The walk of the law. Conditions: utf8's two tables read as the program lays them; MaxLen's cell holds a number. -/
import Derived.Test.YtafialodjnjihaaDoorAlive06
import Derived.Test.YtafialodjnjihaaDoorAfterLaw
import Derived.Test.YtafialodjnjihaaDoorEqRun
namespace Go.Proofs.YtafialodjnjihaaDoor
open Go Go.RowKit Go.BigFrame
set_option maxRecDepth 100000
set_option linter.unusedVariables false

theorem pre_step {xs ys : List Val} {k : Nat} (h : xs.take k = ys.take k) (h1 : k < xs.length) (h2 : k < ys.length) (h3 : xs.getD k Val.zero = ys.getD k Val.zero) : xs.take (k + 1) = ys.take (k + 1) := by
  have e1 : xs[k]? = ys[k]? := by
    simp [h1, h2] at h3 ⊢
    exact h3
  rw [List.take_add_one, List.take_add_one, h, e1]
theorem pre_no {xs ys : List Val} {k : Nat} (h1 : k < xs.length) (h2 : k < ys.length) (h3 : xs.getD k Val.zero ≠ ys.getD k Val.zero) : ¬ xs <+: ys := by
  rintro ⟨z, rfl⟩
  apply h3
  rw [List.getD_eq_getElem?_getD, List.getD_eq_getElem?_getD, List.getElem?_append_left h1]
theorem pre_all {xs ys : List Val} (h : xs.take xs.length = ys.take xs.length) : xs <+: ys := by
  rw [List.take_length] at h
  rw [h]; exact List.take_prefix _ _
/-- One key begins another one, as the law asks it. -/
theorem key_pre {P Q : ByteArray} (h : P.size ≤ Q.size) : ((Q.extract 0 P.size).toList == P.toList) = true ↔ P.data.toList <+: Q.data.toList := by
  rw [tlist, tlist, beq_iff_eq]
  have e : (Q.extract 0 P.size).data.toList = Q.data.toList.take P.size := by simp
  have hl : P.data.toList.length = P.size := rfl
  rw [e]
  constructor
  · intro h; rw [← h]; exact List.take_prefix _ _
  · rintro ⟨z, hz⟩; rw [← hz, ← hl, List.take_left]

set_option maxHeartbeats 16000000 in
theorem keyOrders_walk {w : World} (a : Option Addr) (n c : Nat) (xs : List Val) (hr : Vals w a n xs ∧ n ≤ c ∧ c ≤ maxLen ∧ (a = none → c = 0)) (a' : Option Addr) (n' c' : Nat) (ys : List Val) (hr' : Vals w a' n' ys ∧ n' ≤ c' ∧ c' ≤ maxLen ∧ (a' = none → c' = 0)) (hT : Tabs6 w) :
    Calls Tryd.prog 10 #[.slice a n c, .slice a' n' c'] w fun e w' => e = .returned (.bool true) ∧ Below w.heap.size w w' := by
  have HT := box hT
  have V := box hr.1
  have V' := box hr'.1
  have NIL := box hr.2.2.2
  have NIL' := box hr'.2.2.2
  have L1 := box (long_any a n c xs w V.out)
  have L2 := box (long_any a' n' c' ys w V'.out)
  have B0 := box (Below.refl w.heap.size w)
  have h24 := size24
  clear hr hr' hT
  go_enter Tryd.func10, Tryd.ntmps10
  go_wp2_with fail
  refine L1.out.mono ?_
  rintro e w1 ⟨B, rfl, hB, rfl⟩
  cases B with
  | true =>
    go_wp2_with fail
    refine (alive06 _ (HT.out.below B0.out)).mono ?_
    rintro e wz ⟨rfl, hbz⟩
    have BZ := box (B0.out.trans (hbz.mono B0.out.size))
    clear hbz
    go_wp2_with fail
    go_ret
    exact ⟨rfl, BZ.out⟩
  | false =>
    have hn := hB rfl
    clear hB
    go_wp2_with fail
    refine L2.out.mono ?_
    rintro e w1 ⟨B, rfl, hB, rfl⟩
    cases B with
    | true =>
      go_wp2_with fail
      refine (alive06 _ (HT.out.below B0.out)).mono ?_
      rintro e wz ⟨rfl, hbz⟩
      have BZ := box (B0.out.trans (hbz.mono B0.out.size))
      clear hbz
      go_wp2_with fail
      go_ret
      exact ⟨rfl, BZ.out⟩
    | false =>
      have hn' := hB rfl
      have C1 := box (copy_any a n c xs w V.out NIL.out hn)
      clear hB L1 L2
      go_wp2_with fail
      refine C1.out.mono ?_
      rintro e w1 ⟨a1, c1, rfl, hv1, hb1⟩
      have B1 := box hb1
      have P1 := box (put_any a1 n c1 xs w1 hv1 (HT.out.below hb1))
      have okx : ∀ x ∈ xs, x.Ok := fun x hx => (hv1.2.2.1 x hx).1
      obtain ⟨P, E, hP, hE, hPE⟩ := put_cases xs okx
      rw [hP, hE] at P1
      have KP := box hPE
      clear C1 hv1 hb1 hP hE hPE okx
      go_wp2_with fail
      refine P1.out.mono ?_
      rintro e w2 ⟨rfl, hb2⟩
      have B2 := box (B1.out.trans (hb2.mono B1.out.size))
      have C2 := box (copy_any a' n' c' ys w2 (vals_below V'.out B2.out) NIL'.out hn')
      clear P1 hb2
      go_wp2_with fail
      refine C2.out.mono ?_
      rintro e w3 ⟨a3, c3, rfl, hv3, hb3⟩
      have B3 := box (B2.out.trans (hb3.mono B2.out.size))
      have P3 := box (put_any a3 n' c3 ys w3 hv3 (HT.out.below B3.out))
      have oky : ∀ x ∈ ys, x.Ok := fun x hx => (hv3.2.2.1 x hx).1
      obtain ⟨Q, F, hQ, hF, hQF⟩ := put_cases ys oky
      rw [hQ, hF] at P3
      have KQ := box hQF
      clear C2 hv3 hb3 hQ hF hQF oky
      go_wp2_with fail
      refine P3.out.mono ?_
      rintro e w4 ⟨rfl, hb4⟩
      have B4 := box (B3.out.trans (hb4.mono B3.out.size))
      clear P3 hb4
      rcases KP.out with ⟨gx, hPk, rfl⟩ | ⟨_, rfl⟩
      · rcases KQ.out with ⟨gy, hQk, rfl⟩ | ⟨_, rfl⟩
        · have ORD := keyL_order xs ys gx.each gy.each
          have PRE := box (keyL_begins xs ys gx.each gy.each)
          have hPd : P.data.toList = keyL xs := by rw [hPk]
          have hQd : Q.data.toList = keyL ys := by rw [hQk]
          have h1 : Op.bytesLess P.toList Q.toList = rowLess xs ys := by rw [less_tlt, tlist, tlist, hPd, hQd]; exact ORD.1
          have h2 : (P.toList == Q.toList) = rowSame xs ys := by
            cases h : rowSame xs ys with
            | true => rw [beq_iff_eq, tlist, tlist, hPd, hQd]; exact ORD.2.2 h
            | false =>
              rw [beq_eq_false_iff_ne, tlist, tlist, hPd, hQd]
              intro e; rw [ORD.2.1 e] at h; cases h
          rw [← hPd, ← hQd] at PRE
          have C5 := box (rowless_any a a' n n' c c' xs ys w4 (vals_below V.out B4.out) (vals_below V'.out B4.out))
          have C6 := box (fun W (hb : Below w.heap.size w W) => same_any a a' n n' c c' xs ys W (vals_below V.out hb) (vals_below V'.out hb))
          obtain ⟨R1, hR1⟩ : ∃ R, rowLess xs ys = R := ⟨_, rfl⟩
          obtain ⟨R2, hR2⟩ : ∃ R, rowSame xs ys = R := ⟨_, rfl⟩
          rw [hR1] at h1 C5
          rw [hR2] at h2 C6
          clear hR1 hR2 KP KQ hPd hQd hPk hQk gx gy ORD
          go_wp2_with fail
          refine C5.out.mono ?_
          rintro e w5 ⟨rfl, hb5⟩
          have B5 := box (B4.out.trans (hb5.mono B4.out.size))
          clear C5 hb5
          go_wp2_with fail
          refine (C6.out _ B5.out).mono ?_
          rintro e w6 ⟨rfl, hb6⟩
          have B6 := box (B5.out.trans (hb6.mono B5.out.size))
          have V6 := box (vals_below V.out B6.out)
          have V6' := box (vals_below V'.out B6.out)
          clear C6 hb6
          go_wp2_with fail
          go_loopw [9, 10] (fun b i wr => ∃ (b0 : Bool) (k : Nat), b = .bool b0 ∧ i = .int .i64 k ∧ k ≤ n ∧ Box ((b0 = true → n ≤ n' ∧ xs.take k = ys.take k) ∧ (b0 = false → ¬ xs <+: ys)) ∧ ∃ q, wr = w6.drewN q) (fun _ i _ => n - (intOf i).toNat)
          case atStart =>
            refine ⟨decide (n ≤ n'), 0, by simp, rfl, Nat.zero_le _, box ⟨fun h => ⟨by simpa using h, by simp⟩, fun h hp => ?_⟩, 0, rfl⟩
            have := hp.length_le
            rw [V.out.1, V'.out.1] at this
            simp at h; omega
          case round =>
            obtain ⟨b0, k, rfl, rfl, hk, HK, q, rfl⟩ := hrel
            by_cases hgo : k < n ∧ b0 = true
            · obtain ⟨h3, rfl⟩ := hgo
              have hnn := (HK.out.1 rfl).1
              have h4 : k < n' := by omega
              have hl : k < xs.length := by rw [V.out.1]; exact h3
              have hl' : k < ys.length := by rw [V'.out.1]; exact h4
              obtain ⟨tb, tf, rfl, htb, htc⟩ := V6.out.2.2.2 (by omega)
              obtain ⟨tb', tf', rfl, htb', htc'⟩ := V6'.out.2.2.2 (by omega)
              obtain ⟨x, hx⟩ : ∃ x, xs.getD k Val.zero = x := ⟨_, rfl⟩
              obtain ⟨y, hy⟩ : ∃ y, ys.getD k Val.zero = y := ⟨_, rfl⟩
              have p0 := htc k h3 0 _ (by rw [hx]; rfl)
              have p1 := htc k h3 1 _ (by rw [hx]; rfl)
              have p2 := htc k h3 2 _ (by rw [hx]; rfl)
              have p3 := htc k h3 3 _ (by rw [hx]; rfl)
              have q0 := htc' k h4 0 _ (by rw [hy]; rfl)
              have q1 := htc' k h4 1 _ (by rw [hy]; rfl)
              have q2 := htc' k h4 2 _ (by rw [hy]; rfl)
              have q3 := htc' k h4 3 _ (by rw [hy]; rfl)
              rw [Nat.add_zero] at p0 q0
              have NX : Box ((eqV x y = true → n ≤ n' ∧ xs.take (k + 1) = ys.take (k + 1)) ∧ (eqV x y = false → ¬ xs <+: ys)) := box ⟨fun h => ⟨hnn, pre_step (HK.out.1 rfl).2 hl hl' (by rw [hx, hy]; exact (eqV_iff x y).1 h)⟩, fun h => pre_no hl hl' (by rw [hx, hy]; intro e; rw [(eqV_iff x y).2 e] at h; cases h)⟩
              have EQ := eq_run x.kind y.kind x.int y.int x.real y.real x.text y.text
              obtain ⟨Z, hZ⟩ : ∃ Z, eqV x y = Z := ⟨_, rfl⟩
              have EQ' : ∀ w, (Op.equalIn 10000 24 (.agg #[.int .u8 x.kind, .int .i64 x.int, .int .u64 x.real, .string x.text]) (.agg #[.int .u8 y.kind, .int .i64 y.int, .int .u64 y.real, .string y.text])).run Tryd.prog w = .ok Z w := by
                intro w; rw [← hZ]; exact EQ w
              rw [hZ] at NX
              clear EQ hZ htc htc' hx hy hnn
              obtain ⟨kk, ii, rr, tt⟩ := x
              obtain ⟨kk', ii', rr', tt'⟩ := y
              dsimp only at p0 p1 p2 p3 q0 q1 q2 q3 EQ'
              go_wp2_with fail
              go_quiet (fail)
              go_wp2_with fail
              exact ⟨⟨Z, k + 1, rfl, by go_num, h3, NX, _, rfl⟩, by simp only [intOf]; omega⟩
            · have BG : Box (b0 = true ↔ xs <+: ys) := box (by
                constructor
                · intro h
                  have hk2 : ¬ k < n := fun h3 => hgo ⟨h3, h⟩
                  have h5 := (HK.out.1 h).2
                  have : k = xs.length := by rw [V.out.1]; omega
                  rw [this] at h5
                  exact pre_all h5
                · intro h
                  cases b0 with
                  | true => rfl
                  | false => exact absurd h (HK.out.2 rfl))
              have BF := box (Below.grown B6.out (Only.below (below_drewN (Below.refl w6.heap.size w6) q) none) B6.out.size (by simp))
              clear HK
              by_cases hle : P.size ≤ Q.size
              · have hleI : (P.size : Int) ≤ (Q.size : Int) := by omega
                have hmin : min (P.size : Int) (Q.size : Int) = (P.size : Int) := by omega
                have HPRE := key_pre hle
                cases hZ : (Q.extract 0 P.size).toList == P.toList with
                | true =>
                  obtain rfl : b0 = true := BG.out.2 (PRE.out.1 (HPRE.1 hZ))
                  have hkn : ¬ k < n := fun h3 => hgo ⟨h3, rfl⟩
                  clear HPRE hgo BG
                  go_wp2_with fail
                  refine (alive06 _ (HT.out.below BF.out)).mono ?_
                  rintro e wz ⟨rfl, hbz⟩
                  have BZ := box (BF.out.trans (hbz.mono BF.out.size))
                  clear hbz
                  go_wp2_with fail
                  go_ret
                  exact ⟨rfl, BZ.out⟩
                | false =>
                  obtain rfl : b0 = false := by
                    cases b0 with
                    | false => rfl
                    | true => rw [HPRE.2 (PRE.out.2 (BG.out.1 rfl))] at hZ; cases hZ
                  clear HPRE hgo BG
                  by_cases hkn : k < n
                  · go_wp2_with fail
                    refine (alive06 _ (HT.out.below BF.out)).mono ?_
                    rintro e wz ⟨rfl, hbz⟩
                    have BZ := box (BF.out.trans (hbz.mono BF.out.size))
                    clear hbz
                    go_wp2_with fail
                    go_ret
                    exact ⟨rfl, BZ.out⟩
                  · go_wp2_with fail
                    refine (alive06 _ (HT.out.below BF.out)).mono ?_
                    rintro e wz ⟨rfl, hbz⟩
                    have BZ := box (BF.out.trans (hbz.mono BF.out.size))
                    clear hbz
                    go_wp2_with fail
                    go_ret
                    exact ⟨rfl, BZ.out⟩
              · have hleI : ¬ (P.size : Int) ≤ (Q.size : Int) := by omega
                obtain rfl : b0 = false := by
                  cases b0 with
                  | false => rfl
                  | true =>
                    have := (PRE.out.2 (BG.out.1 rfl)).length_le
                    have e1 : P.data.toList.length = P.size := rfl
                    have e2 : Q.data.toList.length = Q.size := rfl
                    omega
                clear hgo BG
                by_cases hkn : k < n
                · go_wp2_with fail
                  refine (alive06 _ (HT.out.below BF.out)).mono ?_
                  rintro e wz ⟨rfl, hbz⟩
                  have BZ := box (BF.out.trans (hbz.mono BF.out.size))
                  clear hbz
                  go_wp2_with fail
                  go_ret
                  exact ⟨rfl, BZ.out⟩
                · go_wp2_with fail
                  refine (alive06 _ (HT.out.below BF.out)).mono ?_
                  rintro e wz ⟨rfl, hbz⟩
                  have BZ := box (BF.out.trans (hbz.mono BF.out.size))
                  clear hbz
                  go_wp2_with fail
                  go_ret
                  exact ⟨rfl, BZ.out⟩
        · go_wp2_with fail
          refine (alive06 _ (HT.out.below B4.out)).mono ?_
          rintro e wz ⟨rfl, hbz⟩
          have BZ := box (B4.out.trans (hbz.mono B4.out.size))
          clear hbz
          go_wp2_with fail
          go_ret
          exact ⟨rfl, BZ.out⟩
      · go_wp2_with fail
        refine (alive06 _ (HT.out.below B4.out)).mono ?_
        rintro e wz ⟨rfl, hbz⟩
        have BZ := box (B4.out.trans (hbz.mono B4.out.size))
        clear hbz
        go_wp2_with fail
        go_ret
        exact ⟨rfl, BZ.out⟩
end Go.Proofs.YtafialodjnjihaaDoor
