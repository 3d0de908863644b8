/- slices.Equal and value.Same: one contract each. No condition. -/
import Derived.Test.YtafialodjnjihaaDoorOrder
import Derived.Deep.QuietTactic
import Derived.BigQuiet
import Derived.Test.YtafialodjnjihaaDoorLater
namespace Go.Proofs.YtafialodjnjihaaDoor
open Go Go.RowKit Go.BigFrame
set_option maxRecDepth 100000
set_option linter.unusedVariables false

theorem rowSame_len : ∀ (xs ys : List Val), xs.length ≠ ys.length → rowSame xs ys = false := by
  intro xs
  induction xs with
  | nil => intro ys h; cases ys with | nil => simp at h | cons y ys => rfl
  | cons x xs ih => intro ys h; cases ys with
    | nil => rfl
    | cons y ys => unfold rowSame; rw [ih ys (by simpa using h), Bool.and_false]
theorem rowSame_drop (xs ys : List Val) (k : Nat) (h : k < xs.length) (h' : k < ys.length) : rowSame (xs.drop k) (ys.drop k) = (eqV (xs.getD k Val.zero) (ys.getD k Val.zero) && rowSame (xs.drop (k + 1)) (ys.drop (k + 1))) := by
  rw [List.drop_eq_getElem_cons h, List.drop_eq_getElem_cons h']
  have e1 : xs.getD k Val.zero = xs[k] := by simp [h]
  have e2 : ys.getD k Val.zero = ys[k] := by simp [h']
  rw [e1, e2]; rfl

set_option maxHeartbeats 4000000 in
theorem equal_any (a a' : Option Addr) (n n' c c' : Nat) (xs ys : List Val) (w : World) (hr : Vals w a n xs) (hr' : Vals w a' n' ys) :
    Calls Tryd.prog 48 #[.slice a n c, .slice a' n' c'] w fun e w' => e = .returned (.bool (rowSame xs ys)) ∧ Below w.heap.size w w' := by
  have HR := box hr; clear hr
  have HR' := box hr'; clear hr'
  have h24 := size24
  have hn := HR.out.2.1
  have hn' := HR'.out.2.1
  by_cases hne : n = n'
  · subst hne
    obtain ⟨A, hA⟩ : ∃ A, rowSame xs ys = A := ⟨_, rfl⟩
    rw [hA]
    have HA : Box (rowSame (xs.drop 0) (ys.drop 0) = A) := box hA
    clear hA
    go_enter Tryd.func48, Tryd.ntmps48
    go_wp2_with fail
    go_loopw [13] (fun i wr => ∃ k : Nat, i = .int .i64 k ∧ k ≤ n ∧ Box (rowSame (xs.drop k) (ys.drop k) = A) ∧ ∃ q, wr = w.drewN q) (fun i _ => n - (intOf i).toNat)
    case atStart => exact ⟨0, rfl, Nat.zero_le _, HA, 0, rfl⟩
    case round =>
      obtain ⟨k, rfl, hk, HK, q, rfl⟩ := hrel
      by_cases h1 : k < n
      · have h2 := h1
        have hl : k < xs.length := by rw [HR.out.1]; exact h1
        have hl' : k < ys.length := by rw [HR'.out.1]; exact h2
        obtain ⟨tb, tf, rfl, htb, htc⟩ := HR.out.2.2.2 (by omega)
        obtain ⟨tb', tf', rfl, htb', htc'⟩ := HR'.out.2.2.2 (by omega)
        have HD := box (rowSame_drop xs ys k hl hl')
        obtain ⟨x, hx⟩ : ∃ x, xs.getD k Val.zero = x := ⟨_, rfl⟩
        obtain ⟨y, hy⟩ : ∃ y, ys.getD k Val.zero = y := ⟨_, rfl⟩
        have p0 := htc k h1 0 _ (by rw [hx]; rfl)
        have p1 := htc k h1 1 _ (by rw [hx]; rfl)
        have p2 := htc k h1 2 _ (by rw [hx]; rfl)
        have p3 := htc k h1 3 _ (by rw [hx]; rfl)
        have q0 := htc' k h2 0 _ (by rw [hy]; rfl)
        have q1 := htc' k h2 1 _ (by rw [hy]; rfl)
        have q2 := htc' k h2 2 _ (by rw [hy]; rfl)
        have q3 := htc' k h2 3 _ (by rw [hy]; rfl)
        rw [Nat.add_zero] at p0 q0
        rw [hx, hy] at HD
        clear htc htc' hx hy
        by_cases hxy : x = y
        · subst hxy
          have HE := box ((eqV_iff x x).2 rfl)
          obtain ⟨kk, ii, rr, tt⟩ := x
          dsimp only at p0 p1 p2 p3 q0 q1 q2 q3
          go_wp2_with fail
          go_quiet (fail)
          go_wp2_with fail
          exact ⟨⟨k + 1, by go_num, h1, box (by have h := HK.out; rw [HD.out, HE.out, Bool.true_and] at h; exact h), _, rfl⟩, by simp only [intOf]; omega⟩
        · have hE : eqV x y = false := by
            cases h : eqV x y
            · rfl
            · exact absurd ((eqV_iff x y).1 h) hxy
          have HF : Box (A = false) := box (by have h := HK.out; rw [HD.out, hE, Bool.false_and] at h; exact h.symm)
          clear HD HK hE
          obtain ⟨kk, ii, rr, tt⟩ := x
          obtain ⟨kk', ii', rr', tt'⟩ := y
          dsimp only at p0 p1 p2 p3 q0 q1 q2 q3
          by_cases d0 : kk = kk'
          · subst d0
            by_cases d1 : ii = ii'
            · subst d1
              by_cases d2 : rr = rr'
              · subst d2
                have d3 : ¬ tt = tt' := fun e => hxy (by rw [e])
                have e3 : (tt.toList == tt'.toList) = false := by
                  rw [beq_eq_false_iff_ne]
                  intro e
                  rw [Go.ByteArray.toList_eq, Go.ByteArray.toList_eq] at e
                  exact d3 (ByteArray.ext (Array.toList_inj.1 e))
                clear d3 hxy
                go_wp2_with fail
                go_quiet (fail)
                go_wp2_with fail
                go_ret
                exact ⟨by rw [HF.out]; rfl, below_drewN (below_drewN (Below.refl _ _) _) _⟩
              · have e2 : (rr == rr') = false := beq_eq_false_iff_ne.2 d2
                have e2i : ((rr : Int) == (rr' : Int)) = false := beq_eq_false_iff_ne.2 (by omega)
                clear d2 hxy
                go_wp2_with fail
                go_quiet (fail)
                go_wp2_with fail
                go_ret
                exact ⟨by rw [HF.out]; rfl, below_drewN (below_drewN (Below.refl _ _) _) _⟩
            · have e1 : (ii == ii') = false := beq_eq_false_iff_ne.2 d1
              clear d1 hxy
              go_wp2_with fail
              go_quiet (fail)
              go_wp2_with fail
              go_ret
              exact ⟨by rw [HF.out]; rfl, below_drewN (below_drewN (Below.refl _ _) _) _⟩
          · have e0 : (kk == kk') = false := beq_eq_false_iff_ne.2 d0
            have e0i : ((kk : Int) == (kk' : Int)) = false := beq_eq_false_iff_ne.2 (by omega)
            clear d0 hxy
            go_wp2_with fail
            go_quiet (fail)
            go_wp2_with fail
            go_ret
            exact ⟨by rw [HF.out]; rfl, below_drewN (below_drewN (Below.refl _ _) _) _⟩
      · have HF : Box (A = true) := box (by
          have h := HK.out
          rw [List.drop_of_length_le (by rw [HR.out.1]; omega), List.drop_of_length_le (by rw [HR'.out.1]; omega)] at h
          exact h.symm)
        go_wp2_with fail
        go_ret
        exact ⟨by rw [HF.out]; rfl, below_drewN (Below.refl _ _) q⟩
  · have hA : rowSame xs ys = false := rowSame_len xs ys (by rw [HR.out.1, HR'.out.1]; exact hne)
    rw [hA]
    have t1 : ((n : Int) == (n' : Int)) = false := beq_eq_false_iff_ne.2 (by omega)
    have t2 : (n == n') = false := beq_eq_false_iff_ne.2 hne
    clear hA hne
    go_enter Tryd.func48, Tryd.ntmps48
    go_wp2_with fail
    go_ret
    exact ⟨rfl, Below.refl _ _⟩
theorem same_any (a a' : Option Addr) (n n' c c' : Nat) (xs ys : List Val) (w : World) (hr : Vals w a n xs) (hr' : Vals w a' n' ys) :
    Calls Tryd.prog 31 #[.slice a n c, .slice a' n' c'] w fun e w' => e = .returned (.bool (rowSame xs ys)) ∧ Below w.heap.size w w' := by
  have C := box (equal_any a a' n n' c c' xs ys w hr hr')
  clear hr hr'
  go_enter Tryd.func31, Tryd.ntmps31
  go_wp2_with fail
  refine C.out.mono ?_
  rintro e w1 ⟨rfl, hb⟩
  have B := box hb
  clear hb
  go_wp2_with fail
  go_ret
  exact ⟨rfl, B.out⟩
end Go.Proofs.YtafialodjnjihaaDoor
