/- Rows of values: the reference's Row and Same, Long. Condition: utf8's two tables read as the program lays them. -/
import Derived.Test.YtafialodjnjihaaDoorRowMay
import Derived.Deep.QuietTactic
import Derived.BigQuiet
import Derived.Laws.AppendOwnNone
namespace Go.Proofs.YtafialodjnjihaaDoor
open Go Go.RowKit
set_option maxRecDepth 100000
set_option linter.unusedVariables false

set_option maxHeartbeats 2000000 in
theorem refrow_any (a : Option Addr) (n c : Nat) (xs : List Val) (w : World) (hr : Vals w a n xs) (hT : Tabs w) :
    Calls Tryd.prog 17 #[.slice a n c] w fun e w' => e = .returned (.bool (rowMay xs)) ∧ Below w.heap.size w w' := by
  have HR := box hr; clear hr
  have HT := box hT; clear hT
  have h24 := size24
  obtain ⟨A, hA⟩ : ∃ A, rowMay xs = A := ⟨_, rfl⟩
  rw [hA]
  have HA := box hA
  clear hA
  go_enter Tryd.func17, Tryd.ntmps17
  go_wp2_with fail
  go_loopw [3] (fun i wr => ∃ k : Nat, i = .int .i64 k ∧ k ≤ n ∧ Box ((xs.take k).all Val.may = true) ∧ Below w.heap.size w wr) (fun i _ => n - (intOf i).toNat)
  case atStart => exact ⟨0, rfl, Nat.zero_le _, box (by simp), Below.refl _ _⟩
  case round =>
    obtain ⟨k, rfl, hk, HK, hb⟩ := hrel
    have B := box hb; clear hb
    have hn := HR.out.2.1
    by_cases hin : k < n
    · have hl : k < xs.length := by rw [HR.out.1]; exact hin
      obtain ⟨tb, tf, rfl, htb, htc⟩ := HR.out.2.2.2 (by omega)
      obtain ⟨x, hx⟩ : ∃ x, xs.getD k Val.zero = x := ⟨_, rfl⟩
      have hok : x.Ok := by rw [← hx]; exact (HR.out.2.2.1 _ (by simp [hl])).1
      have C0 := box (fun (W : World) hT => may_any x hok W validHas hT)
      have hc0 := (B.out.cell (p := ⟨tb, tf + k * 4 + 0, none⟩) htb).trans (htc k hin 0 _ (by rw [hx]; rfl))
      have hc1 := (B.out.cell (p := ⟨tb, tf + k * 4 + 1, none⟩) htb).trans (htc k hin 1 _ (by rw [hx]; rfl))
      have hc2 := (B.out.cell (p := ⟨tb, tf + k * 4 + 2, none⟩) htb).trans (htc k hin 2 _ (by rw [hx]; rfl))
      have hc3 := (B.out.cell (p := ⟨tb, tf + k * 4 + 3, none⟩) htb).trans (htc k hin 3 _ (by rw [hx]; rfl))
      rw [Nat.add_zero] at hc0
      have HX := box hx
      have HT2 := box (HT.out.below B.out)
      obtain ⟨m, hm⟩ : ∃ m, x.may = m := ⟨_, rfl⟩
      rw [hm] at C0
      have HM := box hm
      clear hx hm htc hok
      obtain ⟨kk, ii, rr, tt⟩ := x
      unfold Val.v at C0
      dsimp only at C0 hc0 hc1 hc2 hc3
      go_wp2_with fail
      refine (C0.out _ HT2.out).mono ?_
      rintro e w1 ⟨rfl, hb1⟩
      have B1 := box (Below.grown B.out (Only.below hb1 none) B.out.size (by simp))
      clear hb1 hc0 hc1 hc2 hc3
      cases m
      · have hA : A = false := by rw [← HA.out]; unfold rowMay; rw [all_not xs k hl (by rw [HX.out]; exact HM.out), Bool.and_false]
        subst hA
        go_wp2_with fail
        go_ret
        exact ⟨rfl, B1.out⟩
      · go_wp2_with fail
        exact ⟨⟨k + 1, by go_num, hin, box (all_take xs k hl HK.out (by rw [HX.out]; exact HM.out)), B1.out⟩, by simp only [intOf]; omega⟩
    · have hkn : n = k := by omega
      have hl := HR.out.1
      have hall : xs.all Val.may = true := by
        have := HK.out
        rwa [List.take_of_length_le (by omega)] at this
      have hA : A = decide (1 ≤ n ∧ n ≤ 8) := by rw [← HA.out]; unfold rowMay; rw [hall, hl, Bool.and_true]
      have HD := box hA
      clear hA hall hl
      go_wp2_with fail
      all_goals
        go_ret
        refine ⟨?_, B.out⟩
        rw [HD.out]
        first | (rw [decide_eq_true (by omega)]; rfl) | (rw [decide_eq_false (by omega)]; rfl) | (rw [decide_eq_decide.2 (show (1 ≤ n ∧ n ≤ 8) ↔ ((k : Int) ≤ 8) by omega)]; rfl) | (rw [decide_eq_decide.2 (show (1 ≤ n ∧ n ≤ 8) ↔ ((n : Int) ≤ 8) by omega)]; rfl)

/-- Two slices of values that hold the same. -/
theorem refsame_any (a a' : Option Addr) (n c c' : Nat) (xs : List Val) (w : World) (hr : Vals w a n xs) (hr' : Vals w a' n xs) :
    Calls Tryd.prog 18 #[.slice a n c, .slice a' n c'] w fun e w' => e = .returned (.bool true) ∧ ∃ q, w' = w.drewN q := by
  have HR := box hr; clear hr
  have HR' := box hr'; clear hr'
  have h24 := size24
  go_enter Tryd.func18, Tryd.ntmps18
  go_wp2_with fail
  go_loopw [5] (fun c wr => ∃ (i : Nat), c = .int .i64 i ∧ i ≤ n ∧ ∃ q, wr = w.drewN q) (fun c _ => n - (intOf c).toNat)
  case atStart => exact ⟨0, rfl, Nat.zero_le _, 0, rfl⟩
  case round =>
    obtain ⟨i, rfl, hi, q, rfl⟩ := hrel
    have hn := HR.out.2.1
    by_cases hin : i < n
    · obtain ⟨tb, tf, rfl, htb, htc⟩ := HR.out.2.2.2 (by omega)
      obtain ⟨tb', tf', rfl, htb', htc'⟩ := HR'.out.2.2.2 (by omega)
      obtain ⟨x, hx⟩ : ∃ x, xs.getD i Val.zero = x := ⟨_, rfl⟩
      have p0 := htc i hin 0 _ (by rw [hx]; rfl)
      have p1 := htc i hin 1 _ (by rw [hx]; rfl)
      have p2 := htc i hin 2 _ (by rw [hx]; rfl)
      have p3 := htc i hin 3 _ (by rw [hx]; rfl)
      have q0 := htc' i hin 0 _ (by rw [hx]; rfl)
      have q1 := htc' i hin 1 _ (by rw [hx]; rfl)
      have q2 := htc' i hin 2 _ (by rw [hx]; rfl)
      have q3 := htc' i hin 3 _ (by rw [hx]; rfl)
      rw [Nat.add_zero] at p0 q0
      have hd : decide (i < n) = true := by simpa using hin
      clear htc htc' hx
      obtain ⟨kk, ii, rr, tt⟩ := x
      dsimp only at p0 p1 p2 p3 q0 q1 q2 q3
      go_wp2_with fail
      go_quiet (fail)
      go_wp2_with fail
      exact ⟨⟨i + 1, by go_num, hin, _, rfl⟩, by simp only [intOf]; omega⟩
    · go_wp2_with fail
      all_goals (go_ret; exact ⟨rfl, q, rfl⟩)

def LongSays (n : Nat) (w : World) (e : Ending) (w' : World) : Prop := ∃ B, e = .returned (.bool B) ∧ (B = false → n ≤ 4000) ∧ w = w'
set_option maxHeartbeats 2000000 in
theorem long_any (a : Option Addr) (n c : Nat) (xs : List Val) (w : World) (hr : Vals w a n xs) :
    Calls Tryd.prog 11 #[.slice a n c] w (LongSays n w) := by
  have HR := box hr; clear hr
  have h24 := size24
  have hn := HR.out.2.1
  go_enter Tryd.func11, Tryd.ntmps11
  go_wp2_with fail
  go_loop [3, 4] (fun m i => ∃ (k s : Nat), m = .int .i64 ((n + s : Nat) : Int) ∧ i = .int .i64 k ∧ k ≤ n ∧ k ≤ 100 ∧ s ≤ k * 17592186044416) (fun _ i => n - (intOf i).toNat)
  case atStart => exact ⟨0, 0, rfl, rfl, Nat.zero_le _, Nat.zero_le _, Nat.zero_le _⟩
  case round =>
    obtain ⟨k, s, rfl, rfl, hk, hk1, hs⟩ := hrel
    by_cases hin : k < n ∧ k < 100
    · obtain ⟨h1, h2⟩ := hin
      have hl : k < xs.length := by rw [HR.out.1]; exact h1
      obtain ⟨tb, tf, rfl, htb, htc⟩ := HR.out.2.2.2 (by omega)
      obtain ⟨x, hx⟩ : ∃ x, xs.getD k Val.zero = x := ⟨_, rfl⟩
      have hsz : x.text.size ≤ 140737488355328 := by rw [← hx]; exact (HR.out.2.2.1 _ (by simp [hl])).2
      have hc3 := htc k h1 3 _ (by rw [hx]; rfl)
      obtain ⟨kk, ii, rr, tt⟩ := x
      dsimp only at hsz hc3
      have hb : s ≤ 1759218604441600 := by omega
      clear htc hx
      go_wp2_with fail
      refine ⟨⟨k + 1, s + tt.size / 8, ?_, by go_num, by omega, by omega, by omega⟩, by simp only [intOf]; omega⟩
      congr 1; omega
    · by_cases h1 : k < n
      · have h2 : ¬ k < 100 := by omega
        have hb : s ≤ 1759218604441600 := by omega
        go_wp2_with fail
        all_goals (go_ret; exact ⟨_, rfl, (by first | (intro h; cases h; done) | (intro h; simp at h; omega) | (intro _; omega)), rfl⟩)
      · have hb : s ≤ 1759218604441600 := by omega
        go_wp2_with fail
        all_goals (go_ret; exact ⟨_, rfl, (by first | (intro h; cases h; done) | (intro h; simp at h; omega) | (intro _; omega)), rfl⟩)
end Go.Proofs.YtafialodjnjihaaDoor
