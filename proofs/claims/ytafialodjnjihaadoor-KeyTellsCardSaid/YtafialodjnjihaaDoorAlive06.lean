/- The examples of the chapter on keys. Conditions: utf8's two tables read as the program lays them; MaxLen's cell holds a number. -/
import Derived.Test.YtafialodjnjihaaDoorGet
namespace Go.Proofs.YtafialodjnjihaaDoor
open Go Go.RowKit Go.BigFrame
set_option maxRecDepth 100000
set_option linter.unusedVariables false

theorem vals_one (y : Val) (W : World) (hy : y.Ok ∧ y.text.size ≤ 140737488355328) : Vals (W.alloc (.cells y.cells.toArray 24)) (some ⟨W.heap.size, 0, none⟩) 1 [y] := by
  refine ⟨rfl, by omega, fun x hx => by obtain rfl := List.mem_singleton.1 hx; exact hy, fun _ => ⟨W.heap.size, 0, rfl, by simp, fun i hi j u hu => ?_⟩⟩
  obtain rfl : i = 0 := by omega
  have h := (Whole1.made W 24 y.cells.toArray).cell j
  rw [show 0 + 0 * 4 + j = j by omega, h]
  simpa using hu
theorem putS_a : putS [⟨2, -1, 0, ⟨#[]⟩⟩] = ⟨#[3, 127, 255, 255, 255, 255, 255, 255, 255]⟩ := by decide +kernel
theorem putE_a : putE [⟨2, -1, 0, ⟨#[]⟩⟩] = 0 := by decide +kernel
theorem putS_b : putS [⟨4, 0, 0, ⟨#[97, 0]⟩⟩] = ⟨#[5, 97, 0, 255, 0, 1]⟩ := by decide +kernel
theorem putE_b : putE [⟨4, 0, 0, ⟨#[97, 0]⟩⟩] = 0 := by decide +kernel
theorem put_a (W : World) (hT : Tabs6 W) : Calls Tryd.prog 33 #[.slice (some ⟨W.heap.size, 0, none⟩) 1 1] (W.alloc (.cells #[.int .u8 2, .int .i64 (-1), .int .u64 0, .string ⟨#[]⟩] 24)) fun e w' => e = .returned (.tuple #[.string ⟨#[3, 127, 255, 255, 255, 255, 255, 255, 255]⟩, .int .i64 0]) ∧ Below W.heap.size W w' := by
  have h := put_any _ 1 1 _ _ (vals_one ⟨2, -1, 0, ⟨#[]⟩⟩ W (val_ok 2 (-1) 0 ⟨#[]⟩ (by omega) (by omega) (by omega) (by show 0 ≤ _; omega))) (hT.below ((Below.refl _ _).alloc (Nat.le_refl _) _))
  rw [putS_a, putE_a] at h
  exact h.mono fun e w' ⟨a, b⟩ => ⟨a, ((Below.refl _ _).alloc (Nat.le_refl _) _).trans (b.mono (by simp))⟩
theorem put_b (W : World) (hT : Tabs6 W) : Calls Tryd.prog 33 #[.slice (some ⟨W.heap.size, 0, none⟩) 1 1] (W.alloc (.cells #[.int .u8 4, .int .i64 0, .int .u64 0, .string ⟨#[97, 0]⟩] 24)) fun e w' => e = .returned (.tuple #[.string ⟨#[5, 97, 0, 255, 0, 1]⟩, .int .i64 0]) ∧ Below W.heap.size W w' := by
  have h := put_any _ 1 1 _ _ (vals_one ⟨4, 0, 0, ⟨#[97, 0]⟩⟩ W (val_ok 4 0 0 ⟨#[97, 0]⟩ (by omega) (by omega) (by omega) (by show 2 ≤ _; omega))) (hT.below ((Below.refl _ _).alloc (Nat.le_refl _) _))
  rw [putS_b, putE_b] at h
  exact h.mono fun e w' ⟨a, b⟩ => ⟨a, ((Below.refl _ _).alloc (Nat.le_refl _) _).trans (b.mono (by simp))⟩
theorem after_at {s : ByteArray} {w : World} (n : Nat) (hn : Trim s n) (hs : s.size ≤ 1099511627776) : Calls Tryd.prog 38 #[.string s] w fun e w' => e = .returned (.tuple #[.string (afterT s n), .bool (decide (n ≠ 0))]) ∧ Below w.heap.size w w' := by
  refine (after_any s w hs).mono ?_
  rintro e w' ⟨m, hm, he, hb⟩
  obtain rfl := hn.one hm
  exact ⟨he, hb⟩
theorem after_c (w : World) : Calls Tryd.prog 38 #[.string ⟨#[97, 255]⟩] w fun e w' => e = .returned (.tuple #[.string ⟨#[98]⟩, .bool true]) ∧ Below w.heap.size w w' := by
  refine after_at (s := ⟨#[97, 255]⟩) 1 ⟨by decide, ?_, ?_⟩ (by decide)
  · intro j h h1
    obtain rfl : j = 1 := by have h2 : j < 2 := h; omega
    rfl
  · intro m h h1
    obtain rfl : m = 0 := by omega
    exact (show (97 : UInt8) ≠ 255 by decide)
theorem after_d (w : World) : Calls Tryd.prog 38 #[.string ⟨#[255]⟩] w fun e w' => e = .returned (.tuple #[.string ⟨#[]⟩, .bool false]) ∧ Below w.heap.size w w' := by
  refine after_at (s := ⟨#[255]⟩) 0 ⟨by decide, ?_, ?_⟩ (by decide)
  · intro j h h1
    obtain rfl : j = 0 := by have h2 : j < 1 := h; omega
    rfl
  · intro m h h1; omega
theorem seven_none (m : List Val) (h : Good m) : keyL m ≠ [7] := by
  intro e
  cases m with
  | nil => cases e
  | cons x m =>
    rw [keyL_cons] at e
    unfold keyV at e
    rw [List.cons_append] at e
    injection e with e1 _
    have hx := (h.each x List.mem_cons_self).1
    have k := kind_of hx e1.symm
    have := may_kind hx
    have e7 : (7 : UInt8).toNat = 7 := rfl
    omega
def Got7 (w : World) (e : Ending) (w' : World) : Prop := ∃ a n c, e = .returned (.tuple #[.slice a n c, .int .i64 7]) ∧ Below w.heap.size w w'
theorem get_seven (w : World) (hT : Tabs6 w) : Calls Tryd.prog 36 #[.string ⟨#[7]⟩] w (Got7 w) := by
  refine (get_any ⟨#[7]⟩ w (by decide) hT).mono ?_
  rintro e w' ⟨a, n, c, l, E, rfl, _, _, hb, h | ⟨rfl, _, _⟩⟩
  · exact absurd h.2.2 (seven_none l h.2.1)
  · exact ⟨a, n, c, rfl, hb⟩
set_option maxHeartbeats 4000000 in
theorem alive06 (w : World) (hT : Tabs6 w) : Calls Tryd.prog 32 #[] w fun e w' => e = .returned (.bool true) ∧ Below w.heap.size w w' := by
  have HT := box hT
  clear hT
  go_enter Tryd.func32, Tryd.ntmps32
  go_wp2_with fail
  refine (put_a w HT.out).mono ?_
  rintro e w1 ⟨rfl, hb1⟩
  have B1 := box hb1
  clear hb1
  go_wp2_with fail
  refine (put_b w1 (HT.out.below B1.out)).mono ?_
  rintro e w2 ⟨rfl, hb2⟩
  have B2 := box (B1.out.trans (hb2.mono B1.out.size))
  clear hb2
  go_wp2_with fail
  refine (after_c w2).mono ?_
  rintro e w3 ⟨rfl, hb3⟩
  have B3 := box (B2.out.trans (hb3.mono B2.out.size))
  clear hb3
  go_wp2_with fail
  refine (after_d w3).mono ?_
  rintro e w4 ⟨rfl, hb4⟩
  have B4 := box (B3.out.trans (hb4.mono B3.out.size))
  clear hb4
  go_wp2_with fail
  refine (get_seven w4 (HT.out.below B4.out)).mono ?_
  rintro e w5 ⟨a, n, c, rfl, hb5⟩
  have B5 := box (B4.out.trans (hb5.mono B4.out.size))
  clear hb5
  go_wp2_with fail
  go_ret
  exact ⟨rfl, B5.out⟩
end Go.Proofs.YtafialodjnjihaaDoor
