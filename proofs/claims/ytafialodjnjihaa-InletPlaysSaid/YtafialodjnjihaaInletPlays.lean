/- The law that an inlet takes what the reference takes. No condition. -/
import Derived.Test.YtafialodjnjihaaMany
import Derived.Test.YtafialodjnjihaaAlive22
import Derived.Test.YtafialodjnjihaaNums
import Derived.Test.YtafialodjnjihaaAppendRecs
import Derived.Deep.RegionHeld3
namespace Go.Proofs.Ytafialodjnjihaa
open Go Go.RowKit
set_option maxRecDepth 100000
set_option linter.unusedVariables false

def PlayKeep (w0 : World) (b0 b1 : Nat) (fa ha ga a' : Option Addr) (k n' : Nat) (lm rs' : List Rc) (s2 : St) (w' : World) : Prop :=
  Recs3 w' fa k lm ∧ Recs3 w' ha k lm ∧ Recs3 w' ga n' rs' ∧ Recs3 w' a' n' rs' ∧ Whole1 w' b0 86 s2.low ∧ Whole1 w' b1 41 s2.ref ∧ Below w0.heap.size w0 w'
section
variable {w0 w' : World} {b0 b1 : Nat} {fa ha ga a' : Option Addr} {k n' : Nat} {lm rs' : List Rc} {s2 : St}
theorem PlayKeep.drewN (h : PlayKeep w0 b0 b1 fa ha ga a' k n' lm rs' s2 w') (q : Nat) : PlayKeep w0 b0 b1 fa ha ga a' k n' lm rs' s2 (w'.drewN q) :=
  ⟨h.1, h.2.1, h.2.2.1, h.2.2.2.1, h.2.2.2.2.1, h.2.2.2.2.2.1, below_drewN h.2.2.2.2.2.2 q⟩
theorem PlayKeep.drew (h : PlayKeep w0 b0 b1 fa ha ga a' k n' lm rs' s2 w') : PlayKeep w0 b0 b1 fa ha ga a' k n' lm rs' s2 w'.drew := h.drewN 1
theorem PlayKeep.below {w2 : World} (h : PlayKeep w0 b0 b1 fa ha ga a' k n' lm rs' s2 w') (hb : Below w'.heap.size w' w2) : PlayKeep w0 b0 b1 fa ha ga a' k n' lm rs' s2 w2 :=
  ⟨recs3_below h.1 hb, recs3_below h.2.1 hb, recs3_below h.2.2.1 hb, recs3_below h.2.2.2.1 hb, h.2.2.2.2.1.below hb h.2.2.2.2.1.lt, h.2.2.2.2.2.1.below hb h.2.2.2.2.2.1.lt,
    Below.grown h.2.2.2.2.2.2 (Only.below hb none) h.2.2.2.2.2.2.size (by simp)⟩
theorem PlayKeep.all (h : PlayKeep w0 b0 b1 fa ha ga a' k n' lm rs' s2 w') : PlayKeep w0 b0 b1 fa ha ga a' k n' lm rs' s2 w' ∧
    w'.cell? ⟨b1, 0, none⟩ = some (.int .u64 s2.n) ∧ w'.cell? ⟨b1, 1, none⟩ = some (.int .i64 s2.f) ∧ w'.cell? ⟨b1, 2, none⟩ = some (.int .i64 s2.a) ∧ w'.cell? ⟨b1, 3, none⟩ = some (.int .i64 s2.g) :=
  ⟨h, h.2.2.2.2.2.1.cell 0, h.2.2.2.2.2.1.cell 1, h.2.2.2.2.2.1.cell 2, h.2.2.2.2.2.1.cell 3⟩
end

set_option maxHeartbeats 4000000 in
theorem plays_main (N : Nat) (a a' : Option Addr) (n c n' c' : Nat) (rs rs' : List Rc) (w : World) (hN : (N : Int) ≤ 1099511627776) (hr : Recs3 w a n rs) (hr' : Recs3 w a' n' rs')
    (hnil : a' = none → c' = 0) :
    Calls Try.prog 4 #[.int .u64 N, .slice a n c, .slice a' n' c'] w fun e w' => e = .returned (.bool true) ∧ Below w.heap.size w w' := by
  have L1 := box (large_any a n c rs w hr)
  have L2 := box (large_any a' n' c' rs' w hr')
  have HR := box hr; clear hr
  have HR' := box hr'; clear hr'
  have HN := box hN
  have hN' : ¬ (1099511627776 : Int) < (N : Int) := by omega
  have h33 := size33
  clear hN
  go_enter Try.func4, Try.ntmps4
  go_wp2_with fail
  refine L1.out.mono ?_
  rintro e w' ⟨B1, rfl, hB1, rfl⟩
  have HB1 := box hB1
  clear hB1
  cases B1
  case true =>
    go_wp2_with fail
    refine (alive22 _).mono ?_
    rintro e w1 ⟨rfl, hb⟩
    go_wp2_with fail
    go_ret
    exact ⟨rfl, hb⟩
  go_wp2_with fail
  refine L2.out.mono ?_
  rintro e w' ⟨B2, rfl, hB2, rfl⟩
  have HB2 := box hB2
  clear hB2
  cases B2
  case true =>
    go_wp2_with fail
    refine (alive22 _).mono ?_
    rintro e w1 ⟨rfl, hb⟩
    go_wp2_with fail
    go_ret
    exact ⟨rfl, hb⟩
  have hn := HB1.out (by first | rfl | trivial)
  have hn' := HB2.out (by first | rfl | trivial)
  go_wp2_with fail
  refine (new_ok N _ HN.out).mono ?_
  rintro e w1 ⟨rfl, hw1⟩
  have b1 : Below w.heap.size w w1 := hw1 ▸ Below.alloc (Below.refl _ _) (Nat.le_refl _) _
  have x1 : Whole1 w1 w.heap.size 86 (St.low ⟨N, 0, 0, 0⟩) := hw1 ▸ Whole1.made _ _ _
  have s1 : w1.heap.size = w.heap.size + 1 := hw1 ▸ by simp
  have X1 := box x1
  have B1 := box b1
  have S1 := box s1
  clear hw1 x1 b1 s1
  go_wp2_with fail
  go_loopw [10] (fun i wr => ∃ (j : Nat) (s1 : St), i = .int .i64 j ∧ j ≤ n ∧ s1.ok j ∧ Whole1 wr w.heap.size 86 s1.low ∧ Whole1 wr w1.heap.size 41 s1.ref ∧ Below w.heap.size w wr) (fun i _ => n - (intOf i).toNat)
  case atStart => exact ⟨0, ⟨N, 0, 0, 0⟩, rfl, Nat.zero_le _, ⟨by have := HN.out; simp; omega, Nat.le_refl _, Nat.le_refl _, Nat.le_refl _⟩, X1.out.alloc _, Whole1.made _ _ _, Below.alloc B1.out B1.out.size _⟩
  case round =>
    obtain ⟨j, s1, rfl, hj, hok, hx, hy, hbel⟩ := hrel
    have OK := box hok
    have X := box hx
    have Y := box hy
    have B := box hbel
    have hsz := hbel.size
    have hne1 : w1.heap.size ≠ w.heap.size := by have := S1.out; omega
    have hwlt := hx.lt
    have hwlt1 := hy.lt
    clear hok hx hy hbel X1 B1
    by_cases hin : j < n
    · obtain ⟨tb, tf, rfl, htb, htc⟩ := HR.out.2.2.2 (by omega)
      have TC0 := box (htc j hin 0 _ rfl)
      have TC1 := box (htc j hin 1 _ rfl)
      have TC2 := box (htc j hin 2 _ rfl)
      generalize rs.getD j Rc.zero = r at *
      have p0 : wr.cell? ⟨tb, tf + j * 3, none⟩ = some (.int .u64 r.off) := (B.out.cell (by exact htb)).trans TC0.out
      have p1 := (B.out.cell (by exact htb)).trans TC1.out
      have p2 := (B.out.cell (by exact htb)).trans TC2.out
      clear htc
      have hd : decide (j < n) = true := by simpa using hin
      go_wp2_with fail
      refine (take_step w.heap.size 1300 s1 r _ (by omega) (ok_to OK.out (by omega)) X.out).mono ?_
      rintro e w2 ⟨rfl, hx2, hb2⟩
      have X2 := box hx2
      have Y2 := box (Y.out.grown hb2 (by simpa using hne1))
      have B2 := box (Below.grown B.out hb2 hsz (by simp))
      clear hx2 hb2 p0 p1 p2
      have p0 : w2.cell? ⟨tb, tf + j * 3, none⟩ = some (.int .u64 r.off) := (B2.out.cell (by exact htb)).trans TC0.out
      have p1 := (B2.out.cell (by exact htb)).trans TC1.out
      have p2 := (B2.out.cell (by exact htb)).trans TC2.out
      go_wp2_with fail
      refine (rtake_step w1.heap.size 1300 s1 r _ (by omega) (ok_to OK.out (by omega)) Y2.out).mono ?_
      rintro e w3 ⟨rfl, hy3, hb3⟩
      have OK3 := box (St.take_ok OK.out r)
      have Y3 := box hy3
      have X3 := box (X2.out.grown hb3 (by simpa using hne1.symm))
      have B3 := box (Below.grown B2.out hb3 B2.out.size (by have := S1.out; simp; omega))
      clear hy3 hb3 p0 p1 p2
      generalize s1.take r = st at *
      obtain ⟨s2, fr, er⟩ := st
      dsimp only at *
      have q0 : w3.cell? ⟨w1.heap.size, 0, none⟩ = some (.int .u64 s2.n) := Y3.out.cell 0
      have e1 : (fr != fr) = false := by simp
      have e2 : ((er : Int) != (er : Int)) = false := by simp
      have e3 : ((s2.n : Int) != (s2.n : Int)) = false := by simp
      have C := box (fun q => (next_any w.heap.size s2.f s2.a s2.g s2.n (w3.drewN q) (X3.out.drewN q)))
      go_wp2_with fail
      go_quiet ((go_at_call 20; exact Calls.quiet_of_same (C.out _)))
      go_wp2_with fail
      exact ⟨⟨j + 1, s2, rfl, hin, OK3.out, X3.out.drewN _, Y3.out.drewN _, below_drewN B3.out _⟩, by simp only [intOf]; omega⟩
    · have HNIL := box hnil
      clear hnil
      go_wp2_with (at_builtin; refine append_recs rfl (.tmp 96) rfl a' n' c' rs' rfl w.heap.size (recs3_below HR'.out B.out) HNIL.out hn' hsz ?_)
      intro v5 w5 hown5 hgr5
      obtain ⟨ga, gc, rfl, hrec5⟩ := own_recs hown5 HR'.out.1 HR'.out.2.1
      have X5 := box (X.out.grown hgr5 (by simp))
      have Y5 := box (Y.out.grown hgr5 (by simp))
      have B5 := box (Below.grown B.out hgr5 hsz (by simp))
      have NX5 := box (own_ne hown5 X5.out (by decide))
      have NY5 := box (own_ne hown5 Y5.out (by decide))
      have R5 := box hrec5
      clear hown5 hgr5 hrec5
      go_wp2_with fail
      have gab : ∀ p, ga = some p → p.block ≠ w.heap.size := fun p hp h => NX5.out (by subst hp; simp [Value.ownBlock, h])
      have gab1 : ∀ p, ga = some p → p.block ≠ w1.heap.size := fun p hp h => NY5.out (by subst hp; simp [Value.ownBlock, h])
      have GAB := box gab
      have GAB1 := box gab1
      clear gab gab1
      have s1k : s1.ok 1000 := ok_to OK.out (by omega)
      have S1K := box s1k
      clear s1k
      refine (some_any w.heap.size s1 ga n' gc rs' w5 S1K.out hn' R5.out X5.out (fun _ => GAB.out)).mono ?_
      rintro e w6 ⟨v6, rfl, hown6, hx6, hgr6⟩
      have hk6 : (s1.many rs').2.1.length ≤ n' := by have := St.many_len rs' s1; have := HR'.out.1; omega
      obtain ⟨fa, fc, rfl, hrec6⟩ := own_recs hown6 rfl (by unfold maxLen; omega)
      have X6 := box hx6
      have Y6 := box (Y5.out.grown hgr6 (by simpa using hne1))
      have B6 := box (Below.grown B5.out hgr6 B5.out.size (by simp))
      have R6 := box hrec6
      have RO6 := box (recs3_kept R5.out hgr6 GAB.out)
      have NY6 := box (own_ne hown6 Y6.out (by decide))
      clear hx6 hgr6 hrec6 hown6
      go_wp2_with fail
      refine (rsome_any w1.heap.size s1 a' n' c' rs' w6 S1K.out hn' (recs3_below HR'.out B6.out) Y6.out ?hblk).mono ?_
      case hblk =>
        intro h0 p hp
        obtain ⟨b, off, e, hb, _⟩ := HR'.out.2.2.2 h0
        rw [e] at hp; cases hp
        show b ≠ _
        have := S1.out
        omega
      rintro e w7 ⟨v7, rfl, hown7, hy7, hgr7⟩
      obtain ⟨ha, hc, rfl, hrec7⟩ := own_recs hown7 rfl (by unfold maxLen; omega)
      have Y7 := box hy7
      have X7 := box (X6.out.grown hgr7 (by simpa using hne1.symm))
      have B7 := box (Below.grown B6.out hgr7 B6.out.size (by have := S1.out; simp; omega))
      have R7 := box hrec7
      have RO7 := box (recs3_kept RO6.out hgr7 GAB1.out)
      have RS7 := box (recs3_kept R6.out hgr7 (fun p hp h => NY6.out (by subst hp; simp [Value.ownBlock, h])))
      clear hy7 hgr7 hrec7 hown7
      generalize hlm : (s1.many rs').2.1 = lm at *
      generalize (s1.many rs').2.2 = er at *
      generalize (s1.many rs').1 = s2 at *
      clear hlm
      go_wp2_with fail
      refine (counts_any w.heap.size s2.f s2.a s2.g s2.n w7 X7.out).mono ?_
      rintro e w8 ⟨rfl, q, rfl⟩
      have kb : PlayKeep w w.heap.size w1.heap.size fa ha ga a' lm.length n' lm rs' s2 w7 := ⟨RS7.out, R7.out, RO7.out, recs3_below HR'.out B7.out, X7.out, Y7.out, B7.out⟩
      have KB := box kb
      clear kb
      have e1 : ((er : Int) == (er : Int)) = true := by simp
      have e2 : ((s2.n : Int) == (s2.n : Int)) = true := by simp
      have e3 : ((s2.f : Int) == (s2.f : Int)) = true := by simp
      have e4 : ((s2.a : Int) == (s2.a : Int)) = true := by simp
      have e5 : ((s2.g : Int) == (s2.g : Int)) = true := by simp
      go_wp2_with fail
      go_region_held3 (fun w' => PlayKeep w w.heap.size w1.heap.size fa ha ga a' lm.length n' lm rs' s2 w' ∧
          w'.cell? ⟨w1.heap.size, 0, none⟩ = some (.int .u64 s2.n) ∧ w'.cell? ⟨w1.heap.size, 1, none⟩ = some (.int .i64 s2.f) ∧ w'.cell? ⟨w1.heap.size, 2, none⟩ = some (.int .i64 s2.a) ∧ w'.cell? ⟨w1.heap.size, 3, none⟩ = some (.int .i64 s2.g))
        (first | exact PlayKeep.all (PlayKeep.drewN KB.out _) | exact PlayKeep.all (PlayKeep.drew (PlayKeep.drewN KB.out _)) | exact PlayKeep.all (PlayKeep.below (PlayKeep.drewN KB.out _) (by assumption)))
        (first
          | (go_at_call_of 26 fa; refine (same_any fa ha _ _ _ lm _ (PlayKeep.drewN KB.out _).1 (PlayKeep.drewN KB.out _).2.1).mono ?_; rintro e w' ⟨rfl, qq, rfl⟩)
          | (go_at_call_of 26 ga; refine (same_any ga a' _ _ _ rs' _ (PlayKeep.drewN KB.out _).2.2.1 (PlayKeep.drewN KB.out _).2.2.2.1).mono ?_; rintro e w' ⟨rfl, qq, rfl⟩)
          | (go_at_call 20; refine (next_any _ _ _ _ _ _ (PlayKeep.drewN KB.out _).2.2.2.2.1).mono ?_; rintro e w' ⟨rfl, rfl⟩)
          | (go_at_call 17; refine (alive22 _).mono ?_; rintro e w' ⟨rfl, hb⟩))
      go_wp2_with fail
      go_ret
      exact ⟨rfl, (And.left (by assumption : PlayKeep w w.heap.size w1.heap.size fa ha ga a' lm.length n' lm rs' s2 _ ∧ _)).2.2.2.2.2.2⟩

set_option maxHeartbeats 1000000 in
theorem plays_far (N : Nat) (a a' : Option Addr) (n c n' c' : Nat) (rs rs' : List Rc) (w : World) (hN : (1099511627776 : Int) < (N : Int)) (hr : Recs3 w a n rs) (hr' : Recs3 w a' n' rs') :
    Calls Try.prog 4 #[.int .u64 N, .slice a n c, .slice a' n' c'] w fun e w' => e = .returned (.bool true) ∧ Below w.heap.size w w' := by
  have L1 := box (large_any a n c rs w hr)
  have L2 := box (large_any a' n' c' rs' w hr')
  have HN := box hN
  have d : decide ((1099511627776 : Int) < (N : Int)) = true := by simpa using hN
  clear hr hr'
  go_enter Try.func4, Try.ntmps4
  go_wp2_with fail
  refine L1.out.mono ?_
  rintro e w' ⟨B1, rfl, hB1, rfl⟩
  have HB1 := box hB1
  clear hB1
  cases B1
  case true =>
    go_wp2_with fail
    refine (alive22 _).mono ?_
    rintro e w1 ⟨rfl, hb⟩
    go_wp2_with fail
    go_ret
    exact ⟨rfl, hb⟩
  go_wp2_with fail
  refine L2.out.mono ?_
  rintro e w' ⟨B2, rfl, hB2, rfl⟩
  have HB2 := box hB2
  clear hB2
  cases B2
  case true =>
    go_wp2_with fail
    refine (alive22 _).mono ?_
    rintro e w1 ⟨rfl, hb⟩
    go_wp2_with fail
    go_ret
    exact ⟨rfl, hb⟩
  go_wp2_with fail
  refine (new_no N _ HN.out).mono ?_
  rintro e w1 ⟨rfl, rfl⟩
  go_wp2_with fail
  refine (alive22 _).mono ?_
  rintro e w1 ⟨rfl, hb⟩
  go_wp2_with fail
  go_ret
  exact ⟨rfl, hb⟩

theorem inletPlays_walk {w : World} (x : Int) (xw : (Lit.int .u64 x).wf = true) (a : Option Addr) (n c : Nat) (rs : List Rc) (hr : Recs w a n rs ∧ (a = none → c = 0)) (a' : Option Addr) (n' c' : Nat) (rs' : List Rc) (hr' : Recs w a' n' rs' ∧ (a' = none → c' = 0)) :
    Calls Try.prog 4 #[.int .u64 x, .slice a n c, .slice a' n' c'] w fun e w' => e = .returned (.bool true) ∧ Below w.heap.size w w' := by
  obtain ⟨N, rfl, hN⟩ := u64_nat xw
  by_cases h : (1099511627776 : Int) < (N : Int)
  · exact plays_far N a a' n c n' c' rs rs' w h (recs3_of hr.1) (recs3_of hr'.1)
  · exact plays_main N a a' n c n' c' rs rs' w (by omega) (recs3_of hr.1) (recs3_of hr'.1) hr'.2

end Go.Proofs.Ytafialodjnjihaa
