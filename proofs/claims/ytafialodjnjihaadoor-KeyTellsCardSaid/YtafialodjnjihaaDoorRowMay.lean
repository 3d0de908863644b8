/- value.Row: may such a row be? Condition: utf8's two tables read as the program lays them. -/
import Derived.Test.YtafialodjnjihaaDoorVals
import Derived.Test.YtafialodjnjihaaDoorValid
namespace Go.Proofs.YtafialodjnjihaaDoor
open Go Go.RowKit
set_option maxRecDepth 100000
set_option linter.unusedVariables false

theorem bad_any (x : Val) (hx : x.Ok) (w : World) (hT : Tabs w) : Calls Tryd.prog 44 #[x.v] w fun e w' => e = .returned (.bool (!x.may)) ∧ Below w.heap.size w w' := by
  have C := box (check_any x hx (w.alloc (.cells x.cells.toArray 24)) validHas (hT.below ((Below.refl _ w).alloc (Nat.le_refl _) _)))
  have HE : Box (x.err = if x.may = true then 0 else 2) := box rfl
  clear hx hT
  obtain ⟨m, hm⟩ : ∃ m, x.may = m := ⟨_, rfl⟩
  obtain ⟨er, her⟩ : ∃ er, x.err = er := ⟨_, rfl⟩
  rw [her] at C HE
  rw [hm] at HE ⊢
  clear hm her
  obtain ⟨k, i, r, t⟩ := x
  unfold Val.v Val.cells at *
  dsimp only at *
  have he : er = if m = true then 0 else 2 := HE.out
  cases m
  · obtain rfl : er = 2 := he
    clear HE
    go_enter Tryd.func44, Tryd.ntmps44
    go_wp2_with fail
    refine C.out.mono ?_
    rintro e w1 ⟨rfl, hb⟩
    have HB := box (((Below.refl w.heap.size w).alloc (Nat.le_refl _) _).trans (hb.mono (by simp)))
    clear hb
    go_wp2_with fail
    go_ret
    exact ⟨rfl, HB.out⟩
  · obtain rfl : er = 0 := he
    clear HE
    go_enter Tryd.func44, Tryd.ntmps44
    go_wp2_with fail
    refine C.out.mono ?_
    rintro e w1 ⟨rfl, hb⟩
    have HB := box (((Below.refl w.heap.size w).alloc (Nat.le_refl _) _).trans (hb.mono (by simp)))
    clear hb
    go_wp2_with fail
    go_ret
    exact ⟨rfl, HB.out⟩

theorem size24 (w : World) : (sizeOf 24).run Tryd.prog w = .ok 4 w := Tryd.sizeOf24 w
def IdxSays (xs : List Val) (w : World) (e : Ending) (w' : World) : Prop := ∃ I : Int, e = .returned (.int .i64 I) ∧ ((I = -1 ∧ xs.all Val.may = true) ∨ (0 ≤ I ∧ xs.all Val.may = false)) ∧ Below w.heap.size w w'
theorem all_take (xs : List Val) (i : Nat) (h : i < xs.length) (h1 : (xs.take i).all Val.may = true) (h2 : (xs.getD i Val.zero).may = true) : (xs.take (i + 1)).all Val.may = true := by
  rw [List.take_add_one, List.all_append, h1]
  simp [h] at h2 ⊢
  exact h2
theorem all_not (xs : List Val) (i : Nat) (h : i < xs.length) (h2 : (xs.getD i Val.zero).may = false) : xs.all Val.may = false := by
  rw [List.all_eq_false]
  exact ⟨xs[i], List.getElem_mem h, by simp [h] at h2; simp [h2]⟩
set_option maxHeartbeats 2000000 in
theorem index_any (a : Option Addr) (n c : Nat) (xs : List Val) (w : World) (hr : Vals w a n xs) (hT : Tabs w) :
    Calls Tryd.prog 61 #[.slice a n c, .func (.func 44) #[] #[]] w (IdxSays xs w) := by
  have HR := box hr; clear hr
  have HT := box hT; clear hT
  have h24 := size24
  go_enter Tryd.func61, Tryd.ntmps61
  go_wp2_with fail
  go_loopw [8] (fun i wr => ∃ k : Nat, i = .int .i64 k ∧ k ≤ n ∧ Box ((xs.take k).all Val.may = true) ∧ Below w.heap.size w wr) (fun i _ => n - (intOf i).toNat)
  case atStart => exact ⟨0, rfl, Nat.zero_le _, box (by simp), Below.refl _ _⟩
  case round =>
    obtain ⟨k, rfl, hk, HK, hb⟩ := hrel
    have B := box hb; clear hb
    have hn := HR.out.2.1
    by_cases hin : k < n
    · have hl : k < xs.length := by rw [HR.out.1]; exact hin
      obtain ⟨tb, tf, rfl, htb, htc⟩ := HR.out.2.2.2 (by omega)
      have hlt := B.out
      obtain ⟨x, hx⟩ : ∃ x, xs.getD k Val.zero = x := ⟨_, rfl⟩
      have hok : x.Ok := by rw [← hx]; exact (HR.out.2.2.1 _ (by simp [hl])).1
      have C0 := box (fun (W : World) hT => bad_any x hok W hT)
      have hc0 := (B.out.cell (p := ⟨tb, tf + k * 4 + 0, none⟩) htb).trans (htc k hin 0 _ (by rw [hx]; rfl))
      have hc1 := (B.out.cell (p := ⟨tb, tf + k * 4 + 1, none⟩) htb).trans (htc k hin 1 _ (by rw [hx]; rfl))
      have hc2 := (B.out.cell (p := ⟨tb, tf + k * 4 + 2, none⟩) htb).trans (htc k hin 2 _ (by rw [hx]; rfl))
      have hc3 := (B.out.cell (p := ⟨tb, tf + k * 4 + 3, none⟩) htb).trans (htc k hin 3 _ (by rw [hx]; rfl))
      rw [Nat.add_zero] at hc0
      have HX := box hx
      have HT2 := box (HT.out.below B.out)
      obtain ⟨m, hm⟩ : ∃ m, x.may = m := ⟨_, rfl⟩
      rw [hm] at C0
      have HM := box hm
      clear hx hm htc hlt hok
      obtain ⟨kk, ii, rr, tt⟩ := x
      unfold Val.v at C0
      dsimp only at C0 hc0 hc1 hc2 hc3
      go_wp2_with fail
      refine (C0.out _ HT2.out).mono ?_
      rintro e w1 ⟨rfl, hb1⟩
      have B1 := box (Below.grown B.out (Only.below hb1 none) B.out.size (by simp))
      clear hb1 hc0 hc1 hc2 hc3
      cases m
      · go_wp2_with fail
        go_ret
        exact ⟨k, rfl, .inr ⟨by omega, all_not xs k hl (by rw [HX.out]; exact HM.out)⟩, B1.out⟩
      · go_wp2_with fail
        exact ⟨⟨k + 1, by go_num, hin, box (all_take xs k hl HK.out (by rw [HX.out]; exact HM.out)), B1.out⟩, by simp only [intOf]; omega⟩
    · have hkn : n = k := by omega
      have hl := HR.out.1
      go_wp2_with fail
      go_ret
      refine ⟨-1, rfl, .inl ⟨rfl, ?_⟩, B.out⟩
      have := HK.out
      rwa [List.take_of_length_le (by omega)] at this
theorem contains_any (a : Option Addr) (n c : Nat) (xs : List Val) (w : World) (hr : Vals w a n xs) (hT : Tabs w) :
    Calls Tryd.prog 43 #[.slice a n c, .func (.func 44) #[] #[]] w fun e w' => e = .returned (.bool (!xs.all Val.may)) ∧ Below w.heap.size w w' := by
  have C := box (index_any a n c xs w hr hT)
  clear hr hT
  obtain ⟨A, hA⟩ : ∃ A, xs.all Val.may = A := ⟨_, rfl⟩
  rw [hA]
  have HA := box hA
  clear hA
  go_enter Tryd.func43, Tryd.ntmps43
  go_wp2_with fail
  refine C.out.mono ?_
  rintro e w1 ⟨I, rfl, hI, hb⟩
  have B := box hb
  clear hb
  rcases hI with ⟨rfl, hI⟩ | ⟨h0, hI⟩
  · obtain rfl : A = true := by rw [← HA.out]; exact hI
    clear hI
    go_wp2_with fail
    go_ret
    exact ⟨rfl, B.out⟩
  · obtain rfl : A = false := by rw [← HA.out]; exact hI
    clear hI
    go_wp2_with fail
    go_ret
    exact ⟨by simp, B.out⟩
/-- May such a row be? -/
def rowMay (xs : List Val) : Bool := decide (1 ≤ xs.length ∧ xs.length ≤ 8) && xs.all Val.may
def rowErr (xs : List Val) : Int := if rowMay xs = true then 0 else 2
theorem row_any (a : Option Addr) (n c : Nat) (xs : List Val) (w : World) (hr : Vals w a n xs) (hT : Tabs w) :
    Calls Tryd.prog 16 #[.slice a n c] w fun e w' => e = .returned (.int .i64 (rowErr xs)) ∧ Below w.heap.size w w' := by
  have C := box (contains_any a n c xs w hr hT)
  have hl := hr.1
  have hn := hr.2.1
  clear hr hT
  by_cases h1 : n < 1
  · have e : rowErr xs = 2 := by unfold rowErr rowMay; rw [decide_eq_false (by omega)]; rfl
    rw [e]
    have t1 : (n : Int) < 1 := by omega
    clear h1 e hl C
    go_enter Tryd.func16, Tryd.ntmps16
    go_wp2_with fail
    go_ret
    exact ⟨rfl, Below.refl _ _⟩
  · by_cases h8 : 8 < n
    · have e : rowErr xs = 2 := by unfold rowErr rowMay; rw [decide_eq_false (by omega)]; rfl
      rw [e]
      have t1 : ¬ (n : Int) < 1 := by omega
      have t2 : (8 : Int) < (n : Int) := by omega
      clear h1 h8 e hl C
      go_enter Tryd.func16, Tryd.ntmps16
      go_wp2_with fail
      go_ret
      exact ⟨rfl, Below.refl _ _⟩
    · have t1 : ¬ (n : Int) < 1 := by omega
      have t2 : ¬ (8 : Int) < (n : Int) := by omega
      have hd : decide (1 ≤ xs.length ∧ xs.length ≤ 8) = true := decide_eq_true (by omega)
      clear h1 h8 hl
      cases hA : xs.all Val.may
      · have e : rowErr xs = 2 := by unfold rowErr rowMay; rw [hd, hA]; rfl
        rw [e]
        rw [hA] at C
        clear e hA hd
        go_enter Tryd.func16, Tryd.ntmps16
        go_wp2_with fail
        refine C.out.mono ?_
        rintro e w1 ⟨rfl, hb⟩
        have B := box hb
        clear hb
        go_wp2_with fail
        go_ret
        exact ⟨rfl, B.out⟩
      · have e : rowErr xs = 0 := by unfold rowErr rowMay; rw [hd, hA]; rfl
        rw [e]
        rw [hA] at C
        clear e hA hd
        go_enter Tryd.func16, Tryd.ntmps16
        go_wp2_with fail
        refine C.out.mono ?_
        rintro e w1 ⟨rfl, hb⟩
        have B := box hb
        clear hb
        go_wp2_with fail
        go_ret
        exact ⟨rfl, B.out⟩
end Go.Proofs.YtafialodjnjihaaDoor
