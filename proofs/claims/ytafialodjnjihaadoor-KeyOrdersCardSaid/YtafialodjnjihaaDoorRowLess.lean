/- value.RowLess: one contract. No condition. -/
import Derived.Test.YtafialodjnjihaaDoorOrder
import Derived.Deep.QuietTactic
import Derived.BigQuiet
import Derived.Test.YtafialodjnjihaaDoorLater
namespace Go.Proofs.YtafialodjnjihaaDoor
open Go Go.RowKit Go.BigFrame
set_option maxRecDepth 100000
set_option linter.unusedVariables false

theorem rowLess_drop (xs ys : List Val) (k : Nat) (h : k < xs.length) (h' : k < ys.length) : rowLess (xs.drop k) (ys.drop k) = if eqV (xs.getD k Val.zero) (ys.getD k Val.zero) then rowLess (xs.drop (k + 1)) (ys.drop (k + 1)) else lessV (xs.getD k Val.zero) (ys.getD k Val.zero) := by
  rw [List.drop_eq_getElem_cons h, List.drop_eq_getElem_cons h']
  have e1 : xs.getD k Val.zero = xs[k] := by simp [h]
  have e2 : ys.getD k Val.zero = ys[k] := by simp [h']
  rw [e1, e2]; rfl
theorem rowLess_end (xs ys : List Val) (k : Nat) (h : ¬ (k < xs.length ∧ k < ys.length)) (hk : k ≤ xs.length) (hk' : k ≤ ys.length) : rowLess (xs.drop k) (ys.drop k) = decide (xs.length < ys.length) := by
  by_cases h1 : k < xs.length
  · have h2 : k = ys.length := by omega
    rw [List.drop_eq_getElem_cons h1, List.drop_of_length_le (l := ys) (by omega)]
    rw [decide_eq_false (by omega)]; rfl
  · rw [List.drop_of_length_le (l := xs) (by omega)]
    by_cases h2 : k < ys.length
    · rw [List.drop_eq_getElem_cons h2, decide_eq_true (by omega)]; rfl
    · rw [List.drop_of_length_le (l := ys) (by omega), decide_eq_false (by omega)]; rfl

set_option maxHeartbeats 4000000 in
theorem rowless_any (a a' : Option Addr) (n n' c c' : Nat) (xs ys : List Val) (w : World) (hr : Vals w a n xs) (hr' : Vals w a' n' ys) :
    Calls Tryd.prog 30 #[.slice a n c, .slice a' n' c'] w fun e w' => e = .returned (.bool (rowLess xs ys)) ∧ Below w.heap.size w w' := by
  have HR := box hr; clear hr
  have HR' := box hr'; clear hr'
  have h24 := size24
  have hn := HR.out.2.1
  have hn' := HR'.out.2.1
  obtain ⟨A, hA⟩ : ∃ A, rowLess xs ys = A := ⟨_, rfl⟩
  rw [hA]
  have HA : Box (rowLess (xs.drop 0) (ys.drop 0) = A) := box hA
  clear hA
  go_enter Tryd.func30, Tryd.ntmps30
  go_wp2_with fail
  go_loopw [11] (fun i wr => ∃ k : Nat, i = .int .i64 k ∧ k ≤ n ∧ k ≤ n' ∧ Box (rowLess (xs.drop k) (ys.drop k) = A) ∧ ∃ q, wr = w.drewN q) (fun i _ => n - (intOf i).toNat)
  case atStart => exact ⟨0, rfl, Nat.zero_le _, Nat.zero_le _, HA, 0, rfl⟩
  case round =>
    obtain ⟨k, rfl, hk, hk', HK, q, rfl⟩ := hrel
    by_cases hin : k < n ∧ k < n'
    · obtain ⟨h1, h2⟩ := hin
      have hl : k < xs.length := by rw [HR.out.1]; exact h1
      have hl' : k < ys.length := by rw [HR'.out.1]; exact h2
      obtain ⟨tb, tf, rfl, htb, htc⟩ := HR.out.2.2.2 (by omega)
      obtain ⟨tb', tf', rfl, htb', htc'⟩ := HR'.out.2.2.2 (by omega)
      have HD := box (rowLess_drop xs ys k hl hl')
      obtain ⟨x, hx⟩ : ∃ x, xs.getD k Val.zero = x := ⟨_, rfl⟩
      obtain ⟨y, hy⟩ : ∃ y, ys.getD k Val.zero = y := ⟨_, rfl⟩
      have okx : x.Ok := by rw [← hx]; exact (HR.out.2.2.1 _ (by simp [hl])).1
      have oky : y.Ok := by rw [← hy]; exact (HR'.out.2.2.1 _ (by simp [hl'])).1
      have p0 := htc k h1 0 _ (by rw [hx]; rfl)
      have p1 := htc k h1 1 _ (by rw [hx]; rfl)
      have p2 := htc k h1 2 _ (by rw [hx]; rfl)
      have p3 := htc k h1 3 _ (by rw [hx]; rfl)
      have q0 := htc' k h2 0 _ (by rw [hy]; rfl)
      have q1 := htc' k h2 1 _ (by rw [hy]; rfl)
      have q2 := htc' k h2 2 _ (by rw [hy]; rfl)
      have q3 := htc' k h2 3 _ (by rw [hy]; rfl)
      rw [Nat.add_zero] at p0 q0
      rw [hx, hy] at HD
      have LS := box (fun W => less_v x y okx oky W)
      have hmin : (k : Int) < min (n : Int) (n' : Int) := by omega
      clear htc htc' hx hy okx oky
      by_cases hxy : x = y
      · subst hxy
        have HE := box ((eqV_iff x x).2 rfl)
        obtain ⟨kk, ii, rr, tt⟩ := x
        dsimp only at p0 p1 p2 p3 q0 q1 q2 q3
        clear LS
        go_wp2_with fail
        go_quiet (fail)
        go_wp2_with fail
        exact ⟨⟨k + 1, by go_num, h1, h2, box (by have h := HK.out; rw [HD.out, if_pos HE.out] at h; exact h), _, rfl⟩, by simp only [intOf]; omega⟩
      · have hE : eqV x y = false := by
          cases h : eqV x y
          · rfl
          · exact absurd ((eqV_iff x y).1 h) hxy
        have hA2 : lessV x y = A := by have h := HK.out; rw [HD.out, hE] at h; exact h
        rw [hA2] at LS
        clear hA2 HD HK hE
        obtain ⟨kk, ii, rr, tt⟩ := x
        obtain ⟨kk', ii', rr', tt'⟩ := y
        unfold Val.v at LS
        dsimp only at p0 p1 p2 p3 q0 q1 q2 q3 LS
        have p0O := box p0
        have p1O := box p1
        have p2O := box p2
        have p3O := box p3
        have q0O := box q0
        have q1O := box q1
        have q2O := box q2
        have q3O := box q3
        by_cases d0 : kk = kk'
        · subst d0
          by_cases d1 : ii = ii'
          · subst d1
            by_cases d2 : rr = rr'
            · subst d2
              have d3 : ¬ tt = tt' := fun e => hxy (by rw [e])
              have e3 : (tt.toList == tt'.toList) = false := by
                rw [beq_eq_false_iff_ne]
                intro e
                rw [Go.ByteArray.toList_eq, Go.ByteArray.toList_eq] at e
                exact d3 (ByteArray.ext (Array.toList_inj.1 e))
              clear d3 hxy
              go_wp2_with fail
              go_quiet (fail)
              go_wp2_with fail
              obtain ⟨W2, hW2⟩ : ∃ W2, (w.drewN q).drewN nq = W2 := ⟨_, rfl⟩
              have HB2 : Box (Below w.heap.size w W2) := box (by rw [← hW2]; exact below_drewN (below_drewN (Below.refl _ _) _) _)
              rw [hW2]
              clear hW2 p0 p1 p2 p3 q0 q1 q2 q3
              have p0z : ∀ z : Later W2, z.world.cell? ⟨tb, tf + k * 4, none⟩ = some (.int .u8 kk) := fun z => (z.below.cell (p := ⟨tb, tf + k * 4, none⟩) (Nat.lt_of_lt_of_le htb HB2.out.size)).trans ((HB2.out.cell (p := ⟨tb, tf + k * 4, none⟩) htb).trans p0O.out)
              have p1z : ∀ z : Later W2, z.world.cell? ⟨tb, tf + k * 4 + 1, none⟩ = some (.int .i64 ii) := fun z => (z.below.cell (p := ⟨tb, tf + k * 4 + 1, none⟩) (Nat.lt_of_lt_of_le htb HB2.out.size)).trans ((HB2.out.cell (p := ⟨tb, tf + k * 4 + 1, none⟩) htb).trans p1O.out)
              have p2z : ∀ z : Later W2, z.world.cell? ⟨tb, tf + k * 4 + 2, none⟩ = some (.int .u64 rr) := fun z => (z.below.cell (p := ⟨tb, tf + k * 4 + 2, none⟩) (Nat.lt_of_lt_of_le htb HB2.out.size)).trans ((HB2.out.cell (p := ⟨tb, tf + k * 4 + 2, none⟩) htb).trans p2O.out)
              have p3z : ∀ z : Later W2, z.world.cell? ⟨tb, tf + k * 4 + 3, none⟩ = some (.string tt) := fun z => (z.below.cell (p := ⟨tb, tf + k * 4 + 3, none⟩) (Nat.lt_of_lt_of_le htb HB2.out.size)).trans ((HB2.out.cell (p := ⟨tb, tf + k * 4 + 3, none⟩) htb).trans p3O.out)
              have q0z : ∀ z : Later W2, z.world.cell? ⟨tb', tf' + k * 4, none⟩ = some (.int .u8 kk) := fun z => (z.below.cell (p := ⟨tb', tf' + k * 4, none⟩) (Nat.lt_of_lt_of_le htb' HB2.out.size)).trans ((HB2.out.cell (p := ⟨tb', tf' + k * 4, none⟩) htb').trans q0O.out)
              have q1z : ∀ z : Later W2, z.world.cell? ⟨tb', tf' + k * 4 + 1, none⟩ = some (.int .i64 ii) := fun z => (z.below.cell (p := ⟨tb', tf' + k * 4 + 1, none⟩) (Nat.lt_of_lt_of_le htb' HB2.out.size)).trans ((HB2.out.cell (p := ⟨tb', tf' + k * 4 + 1, none⟩) htb').trans q1O.out)
              have q2z : ∀ z : Later W2, z.world.cell? ⟨tb', tf' + k * 4 + 2, none⟩ = some (.int .u64 rr) := fun z => (z.below.cell (p := ⟨tb', tf' + k * 4 + 2, none⟩) (Nat.lt_of_lt_of_le htb' HB2.out.size)).trans ((HB2.out.cell (p := ⟨tb', tf' + k * 4 + 2, none⟩) htb').trans q2O.out)
              have q3z : ∀ z : Later W2, z.world.cell? ⟨tb', tf' + k * 4 + 3, none⟩ = some (.string tt') := fun z => (z.below.cell (p := ⟨tb', tf' + k * 4 + 3, none⟩) (Nat.lt_of_lt_of_le htb' HB2.out.size)).trans ((HB2.out.cell (p := ⟨tb', tf' + k * 4 + 3, none⟩) htb').trans q3O.out)
              refine wp_region_later W2 (by kernel_rfl) (by kernel_rfl) (Below.refl _ _) ?_
              repeat (go_big_quiet_step (first | (go_at_call 28; exact Calls.later (LS.out _))))
              refine wpQuiet_nil ?_
              rintro _ ⟨nz, rfl⟩
              go_wp2_with fail
              go_ret
              exact ⟨by first | rfl | simp, Below.grown HB2.out (Only.below nz.below none) HB2.out.size (by simp)⟩
            · have e2 : (rr == rr') = false := beq_eq_false_iff_ne.2 d2
              have e2i : ((rr : Int) == (rr' : Int)) = false := beq_eq_false_iff_ne.2 (by omega)
              clear d2 hxy
              go_wp2_with fail
              go_quiet (fail)
              go_wp2_with fail
              obtain ⟨W2, hW2⟩ : ∃ W2, (w.drewN q).drewN nq = W2 := ⟨_, rfl⟩
              have HB2 : Box (Below w.heap.size w W2) := box (by rw [← hW2]; exact below_drewN (below_drewN (Below.refl _ _) _) _)
              rw [hW2]
              clear hW2 p0 p1 p2 p3 q0 q1 q2 q3
              have p0z : ∀ z : Later W2, z.world.cell? ⟨tb, tf + k * 4, none⟩ = some (.int .u8 kk) := fun z => (z.below.cell (p := ⟨tb, tf + k * 4, none⟩) (Nat.lt_of_lt_of_le htb HB2.out.size)).trans ((HB2.out.cell (p := ⟨tb, tf + k * 4, none⟩) htb).trans p0O.out)
              have p1z : ∀ z : Later W2, z.world.cell? ⟨tb, tf + k * 4 + 1, none⟩ = some (.int .i64 ii) := fun z => (z.below.cell (p := ⟨tb, tf + k * 4 + 1, none⟩) (Nat.lt_of_lt_of_le htb HB2.out.size)).trans ((HB2.out.cell (p := ⟨tb, tf + k * 4 + 1, none⟩) htb).trans p1O.out)
              have p2z : ∀ z : Later W2, z.world.cell? ⟨tb, tf + k * 4 + 2, none⟩ = some (.int .u64 rr) := fun z => (z.below.cell (p := ⟨tb, tf + k * 4 + 2, none⟩) (Nat.lt_of_lt_of_le htb HB2.out.size)).trans ((HB2.out.cell (p := ⟨tb, tf + k * 4 + 2, none⟩) htb).trans p2O.out)
              have p3z : ∀ z : Later W2, z.world.cell? ⟨tb, tf + k * 4 + 3, none⟩ = some (.string tt) := fun z => (z.below.cell (p := ⟨tb, tf + k * 4 + 3, none⟩) (Nat.lt_of_lt_of_le htb HB2.out.size)).trans ((HB2.out.cell (p := ⟨tb, tf + k * 4 + 3, none⟩) htb).trans p3O.out)
              have q0z : ∀ z : Later W2, z.world.cell? ⟨tb', tf' + k * 4, none⟩ = some (.int .u8 kk) := fun z => (z.below.cell (p := ⟨tb', tf' + k * 4, none⟩) (Nat.lt_of_lt_of_le htb' HB2.out.size)).trans ((HB2.out.cell (p := ⟨tb', tf' + k * 4, none⟩) htb').trans q0O.out)
              have q1z : ∀ z : Later W2, z.world.cell? ⟨tb', tf' + k * 4 + 1, none⟩ = some (.int .i64 ii) := fun z => (z.below.cell (p := ⟨tb', tf' + k * 4 + 1, none⟩) (Nat.lt_of_lt_of_le htb' HB2.out.size)).trans ((HB2.out.cell (p := ⟨tb', tf' + k * 4 + 1, none⟩) htb').trans q1O.out)
              have q2z : ∀ z : Later W2, z.world.cell? ⟨tb', tf' + k * 4 + 2, none⟩ = some (.int .u64 rr') := fun z => (z.below.cell (p := ⟨tb', tf' + k * 4 + 2, none⟩) (Nat.lt_of_lt_of_le htb' HB2.out.size)).trans ((HB2.out.cell (p := ⟨tb', tf' + k * 4 + 2, none⟩) htb').trans q2O.out)
              have q3z : ∀ z : Later W2, z.world.cell? ⟨tb', tf' + k * 4 + 3, none⟩ = some (.string tt') := fun z => (z.below.cell (p := ⟨tb', tf' + k * 4 + 3, none⟩) (Nat.lt_of_lt_of_le htb' HB2.out.size)).trans ((HB2.out.cell (p := ⟨tb', tf' + k * 4 + 3, none⟩) htb').trans q3O.out)
              refine wp_region_later W2 (by kernel_rfl) (by kernel_rfl) (Below.refl _ _) ?_
              repeat (go_big_quiet_step (first | (go_at_call 28; exact Calls.later (LS.out _))))
              refine wpQuiet_nil ?_
              rintro _ ⟨nz, rfl⟩
              go_wp2_with fail
              go_ret
              exact ⟨by first | rfl | simp, Below.grown HB2.out (Only.below nz.below none) HB2.out.size (by simp)⟩
          · have e1 : (ii == ii') = false := beq_eq_false_iff_ne.2 d1
            clear d1 hxy
            go_wp2_with fail
            go_quiet (fail)
            go_wp2_with fail
            obtain ⟨W2, hW2⟩ : ∃ W2, (w.drewN q).drewN nq = W2 := ⟨_, rfl⟩
            have HB2 : Box (Below w.heap.size w W2) := box (by rw [← hW2]; exact below_drewN (below_drewN (Below.refl _ _) _) _)
            rw [hW2]
            clear hW2 p0 p1 p2 p3 q0 q1 q2 q3
            have p0z : ∀ z : Later W2, z.world.cell? ⟨tb, tf + k * 4, none⟩ = some (.int .u8 kk) := fun z => (z.below.cell (p := ⟨tb, tf + k * 4, none⟩) (Nat.lt_of_lt_of_le htb HB2.out.size)).trans ((HB2.out.cell (p := ⟨tb, tf + k * 4, none⟩) htb).trans p0O.out)
            have p1z : ∀ z : Later W2, z.world.cell? ⟨tb, tf + k * 4 + 1, none⟩ = some (.int .i64 ii) := fun z => (z.below.cell (p := ⟨tb, tf + k * 4 + 1, none⟩) (Nat.lt_of_lt_of_le htb HB2.out.size)).trans ((HB2.out.cell (p := ⟨tb, tf + k * 4 + 1, none⟩) htb).trans p1O.out)
            have p2z : ∀ z : Later W2, z.world.cell? ⟨tb, tf + k * 4 + 2, none⟩ = some (.int .u64 rr) := fun z => (z.below.cell (p := ⟨tb, tf + k * 4 + 2, none⟩) (Nat.lt_of_lt_of_le htb HB2.out.size)).trans ((HB2.out.cell (p := ⟨tb, tf + k * 4 + 2, none⟩) htb).trans p2O.out)
            have p3z : ∀ z : Later W2, z.world.cell? ⟨tb, tf + k * 4 + 3, none⟩ = some (.string tt) := fun z => (z.below.cell (p := ⟨tb, tf + k * 4 + 3, none⟩) (Nat.lt_of_lt_of_le htb HB2.out.size)).trans ((HB2.out.cell (p := ⟨tb, tf + k * 4 + 3, none⟩) htb).trans p3O.out)
            have q0z : ∀ z : Later W2, z.world.cell? ⟨tb', tf' + k * 4, none⟩ = some (.int .u8 kk) := fun z => (z.below.cell (p := ⟨tb', tf' + k * 4, none⟩) (Nat.lt_of_lt_of_le htb' HB2.out.size)).trans ((HB2.out.cell (p := ⟨tb', tf' + k * 4, none⟩) htb').trans q0O.out)
            have q1z : ∀ z : Later W2, z.world.cell? ⟨tb', tf' + k * 4 + 1, none⟩ = some (.int .i64 ii') := fun z => (z.below.cell (p := ⟨tb', tf' + k * 4 + 1, none⟩) (Nat.lt_of_lt_of_le htb' HB2.out.size)).trans ((HB2.out.cell (p := ⟨tb', tf' + k * 4 + 1, none⟩) htb').trans q1O.out)
            have q2z : ∀ z : Later W2, z.world.cell? ⟨tb', tf' + k * 4 + 2, none⟩ = some (.int .u64 rr') := fun z => (z.below.cell (p := ⟨tb', tf' + k * 4 + 2, none⟩) (Nat.lt_of_lt_of_le htb' HB2.out.size)).trans ((HB2.out.cell (p := ⟨tb', tf' + k * 4 + 2, none⟩) htb').trans q2O.out)
            have q3z : ∀ z : Later W2, z.world.cell? ⟨tb', tf' + k * 4 + 3, none⟩ = some (.string tt') := fun z => (z.below.cell (p := ⟨tb', tf' + k * 4 + 3, none⟩) (Nat.lt_of_lt_of_le htb' HB2.out.size)).trans ((HB2.out.cell (p := ⟨tb', tf' + k * 4 + 3, none⟩) htb').trans q3O.out)
            refine wp_region_later W2 (by kernel_rfl) (by kernel_rfl) (Below.refl _ _) ?_
            repeat (go_big_quiet_step (first | (go_at_call 28; exact Calls.later (LS.out _))))
            refine wpQuiet_nil ?_
            rintro _ ⟨nz, rfl⟩
            go_wp2_with fail
            go_ret
            exact ⟨by first | rfl | simp, Below.grown HB2.out (Only.below nz.below none) HB2.out.size (by simp)⟩
        · have e0 : (kk == kk') = false := beq_eq_false_iff_ne.2 d0
          have e0i : ((kk : Int) == (kk' : Int)) = false := beq_eq_false_iff_ne.2 (by omega)
          clear d0 hxy
          go_wp2_with fail
          go_quiet (fail)
          go_wp2_with fail
          obtain ⟨W2, hW2⟩ : ∃ W2, (w.drewN q).drewN nq = W2 := ⟨_, rfl⟩
          have HB2 : Box (Below w.heap.size w W2) := box (by rw [← hW2]; exact below_drewN (below_drewN (Below.refl _ _) _) _)
          rw [hW2]
          clear hW2 p0 p1 p2 p3 q0 q1 q2 q3
          have p0z : ∀ z : Later W2, z.world.cell? ⟨tb, tf + k * 4, none⟩ = some (.int .u8 kk) := fun z => (z.below.cell (p := ⟨tb, tf + k * 4, none⟩) (Nat.lt_of_lt_of_le htb HB2.out.size)).trans ((HB2.out.cell (p := ⟨tb, tf + k * 4, none⟩) htb).trans p0O.out)
          have p1z : ∀ z : Later W2, z.world.cell? ⟨tb, tf + k * 4 + 1, none⟩ = some (.int .i64 ii) := fun z => (z.below.cell (p := ⟨tb, tf + k * 4 + 1, none⟩) (Nat.lt_of_lt_of_le htb HB2.out.size)).trans ((HB2.out.cell (p := ⟨tb, tf + k * 4 + 1, none⟩) htb).trans p1O.out)
          have p2z : ∀ z : Later W2, z.world.cell? ⟨tb, tf + k * 4 + 2, none⟩ = some (.int .u64 rr) := fun z => (z.below.cell (p := ⟨tb, tf + k * 4 + 2, none⟩) (Nat.lt_of_lt_of_le htb HB2.out.size)).trans ((HB2.out.cell (p := ⟨tb, tf + k * 4 + 2, none⟩) htb).trans p2O.out)
          have p3z : ∀ z : Later W2, z.world.cell? ⟨tb, tf + k * 4 + 3, none⟩ = some (.string tt) := fun z => (z.below.cell (p := ⟨tb, tf + k * 4 + 3, none⟩) (Nat.lt_of_lt_of_le htb HB2.out.size)).trans ((HB2.out.cell (p := ⟨tb, tf + k * 4 + 3, none⟩) htb).trans p3O.out)
          have q0z : ∀ z : Later W2, z.world.cell? ⟨tb', tf' + k * 4, none⟩ = some (.int .u8 kk') := fun z => (z.below.cell (p := ⟨tb', tf' + k * 4, none⟩) (Nat.lt_of_lt_of_le htb' HB2.out.size)).trans ((HB2.out.cell (p := ⟨tb', tf' + k * 4, none⟩) htb').trans q0O.out)
          have q1z : ∀ z : Later W2, z.world.cell? ⟨tb', tf' + k * 4 + 1, none⟩ = some (.int .i64 ii') := fun z => (z.below.cell (p := ⟨tb', tf' + k * 4 + 1, none⟩) (Nat.lt_of_lt_of_le htb' HB2.out.size)).trans ((HB2.out.cell (p := ⟨tb', tf' + k * 4 + 1, none⟩) htb').trans q1O.out)
          have q2z : ∀ z : Later W2, z.world.cell? ⟨tb', tf' + k * 4 + 2, none⟩ = some (.int .u64 rr') := fun z => (z.below.cell (p := ⟨tb', tf' + k * 4 + 2, none⟩) (Nat.lt_of_lt_of_le htb' HB2.out.size)).trans ((HB2.out.cell (p := ⟨tb', tf' + k * 4 + 2, none⟩) htb').trans q2O.out)
          have q3z : ∀ z : Later W2, z.world.cell? ⟨tb', tf' + k * 4 + 3, none⟩ = some (.string tt') := fun z => (z.below.cell (p := ⟨tb', tf' + k * 4 + 3, none⟩) (Nat.lt_of_lt_of_le htb' HB2.out.size)).trans ((HB2.out.cell (p := ⟨tb', tf' + k * 4 + 3, none⟩) htb').trans q3O.out)
          refine wp_region_later W2 (by kernel_rfl) (by kernel_rfl) (Below.refl _ _) ?_
          repeat (go_big_quiet_step (first | (go_at_call 28; exact Calls.later (LS.out _))))
          refine wpQuiet_nil ?_
          rintro _ ⟨nz, rfl⟩
          go_wp2_with fail
          go_ret
          exact ⟨by first | rfl | simp, Below.grown HB2.out (Only.below nz.below none) HB2.out.size (by simp)⟩
    · have hmin : ¬ (k : Int) < min (n : Int) (n' : Int) := by omega
      have hE : A = decide (n < n') := by
        have h := HK.out
        rw [rowLess_end xs ys k (by rw [HR.out.1, HR'.out.1]; exact hin) (by rw [HR.out.1]; exact hk) (by rw [HR'.out.1]; exact hk'), HR.out.1, HR'.out.1] at h
        exact h.symm
      have HE := box hE
      clear hE hin
      go_wp2_with fail
      go_ret
      exact ⟨by rw [HE.out]; first | rfl | simp, below_drewN (Below.refl _ _) q⟩
end Go.Proofs.YtafialodjnjihaaDoor
