/- Which of two values is ahead: compare, Less. Condition: their parts fit their kinds. -/
import Derived.Test.YtafialodjnjihaaDoorCmp
import Derived.StillTailTactics
namespace Go.Proofs.YtafialodjnjihaaDoor
open Go Go.RowKit
set_option maxRecDepth 100000
set_option linter.unusedVariables false

/-- which of two values is ahead -/
def cmpV (x y : Val) : Int :=
  if cmpI x.kind y.kind ≠ 0 then cmpI x.kind y.kind else if cmpI x.int y.int ≠ 0 then cmpI x.int y.int else if cmpI (Rl.key x.real : Nat) (Rl.key y.real : Nat) ≠ 0 then cmpI (Rl.key x.real : Nat) (Rl.key y.real : Nat) else cmpT x.text y.text

theorem two_boxes (w : World) (cs cs' : Array Value) : ∃ W2, ((w.alloc (.cells cs 24)).alloc (.cells cs' 24)).drew = W2 ∧ Below w.heap.size w W2 ∧ Whole1 W2 w.heap.size 24 cs ∧ Whole1 W2 (w.heap.size + 1) 24 cs' := by
  refine ⟨_, rfl, (below2 w _ _).drew, ((Whole1.made w 24 cs).alloc _).drew, ?_⟩
  have := (Whole1.made (w.alloc (.cells cs 24)) 24 cs').drew
  rw [World.size_alloc] at this
  exact this

set_option maxHeartbeats 4000000 in
theorem compare_any (x y : Val) (hx : x.Ok) (hy : y.Ok) (w : World) :
    Calls Tryd.prog 47 #[x.v, y.v] w fun e w' => e = .returned (.int .i64 (cmpV x y)) ∧ Below w.heap.size w w' := by
  obtain ⟨k, i, r, t⟩ := x
  obtain ⟨k', i', r', t'⟩ := y
  obtain ⟨hk, hi, hr, ht⟩ := hx
  obtain ⟨hk', hi', hr', ht'⟩ := hy
  dsimp only at hk hi hr ht hk' hi' hr' ht'
  have L1 := box (fun W => less_any r r' W hr hr')
  have L2 := box (fun W => less_any r' r W hr' hr)
  unfold Val.v
  dsimp only
  obtain ⟨A0, h0⟩ : ∃ A, A = cmpI k k' := ⟨_, rfl⟩
  obtain ⟨A1, h1⟩ : ∃ A, A = cmpI i i' := ⟨_, rfl⟩
  obtain ⟨A2, h2⟩ : ∃ A, A = cmpI (Rl.key r : Nat) (Rl.key r' : Nat) := ⟨_, rfl⟩
  obtain ⟨A3, h3⟩ : ∃ A, cmpT t t' = A := ⟨_, rfl⟩
  obtain ⟨A, hA⟩ : ∃ A, A = cmpV ⟨k, i, r, t⟩ ⟨k', i', r', t'⟩ := ⟨_, rfl⟩
  have C0 := box (fun W => cmp8 k k' A0 W (box h0))
  have C1 := box (fun W => cmp64 i i' A1 W (box h1))
  have C3 := box (fun W => cmpS t t' W)
  rw [h3] at C3
  rw [← hA]
  have HA : Box (A = if A0 ≠ 0 then A0 else if A1 ≠ 0 then A1 else if A2 ≠ 0 then A2 else A3) := box (by rw [hA, h0, h1, h2, ← h3]; rfl)
  have H2 := box h2
  clear h0 h1 h2 h3 hA hk hk' hi hi' ht ht' hr hr'
  generalize Rl.key r = a at *
  generalize Rl.key r' = b at *
  have C4 := box (fun (o : Option Addr) (c : Nat) (W : World) (g : Nat) ho c0 c1 c2 c3 => or_any o c A0 A1 A2 A3 A W g 0 ho c0 c1 c2 c3 HA)
  clear HA
  have D0 := box (fun W => (C0.out W).mono fun _ _ ⟨p, q⟩ => (⟨p, q.symm⟩ : _ ∧ _))
  have D1 := box (fun W => (C1.out W).mono fun _ _ ⟨p, q⟩ => (⟨p, q.symm⟩ : _ ∧ _))
  have D3 := box (fun W => (C3.out W).mono fun _ _ ⟨p, q⟩ => (⟨p, q.symm⟩ : _ ∧ _))
  clear C0 C1 C3
  by_cases hab : a < b
  · have e2 : A2 = -1 := by rw [H2.out]; unfold cmpI; rw [if_pos (by omega)]
    subst e2
    have d1 : decide (a < b) = true := decide_eq_true hab
    rw [d1] at L1
    clear hab d1 H2 L2
    go_enter Tryd.func47, Tryd.ntmps47
    go_wp2_with fail
    refine (L1.out _).mono ?_
    rintro e w1 ⟨rfl, rfl⟩
    go_wp2_with fail
    refine wp_region_still_tail 16 (by kernel_rfl) (by kernel_rfl) ?_
    simp only [List.take_succ_cons, List.take_zero, List.drop_succ_cons, List.drop_zero]
    change wpStill Tryd.prog _ (((w.alloc (.cells #[.int .u8 k, .int .i64 i, .int .u64 r, .string t] 24)).alloc (.cells #[.int .u8 k', .int .i64 i', .int .u64 r', .string t'] 24)).drew) (fun a' => wpList Tryd.prog _ _ _ a' (((w.alloc (.cells #[.int .u8 k, .int .i64 i, .int .u64 r, .string t] 24)).alloc (.cells #[.int .u8 k', .int .i64 i', .int .u64 r', .string t'] 24)).drew)) _ _
    obtain ⟨W2, hW2, hb2, P, Q⟩ := two_boxes w #[.int .u8 k, .int .i64 i, .int .u64 r, .string t] #[.int .u8 k', .int .i64 i', .int .u64 r', .string t']
    have p0 : W2.cell? ⟨w.heap.size, 0, none⟩ = some (.int .u8 k) := P.cell 0
    have p1 : W2.cell? ⟨w.heap.size, 1, none⟩ = some (.int .i64 i) := P.cell 1
    have p3 : W2.cell? ⟨w.heap.size, 3, none⟩ = some (.string t) := P.cell 3
    have q0 : W2.cell? ⟨w.heap.size + 1, 0, none⟩ = some (.int .u8 k') := Q.cell 0
    have q1 : W2.cell? ⟨w.heap.size + 1, 1, none⟩ = some (.int .i64 i') := Q.cell 1
    have q3 : W2.cell? ⟨w.heap.size + 1, 3, none⟩ = some (.string t') := Q.cell 3
    rw [hW2]
    have HB := box hb2
    clear hW2 hb2 P Q
    repeat still_step
    still_call (D0.out _)
    repeat still_step
    still_call (D1.out _)
    repeat still_step
    still_call (D3.out _)
    refine wpStill_nil ?_
    go_wp2_with fail
    have Q2 := Whole1.made W2 3 #[.int .i64 A0, .int .i64 A1, .int .i64 (-1), .int .i64 A3]
    refine (C4.out _ _ _ _ rfl (Q2.cell 0) (Q2.cell 1) (Q2.cell 2) (Q2.cell 3)).mono ?_
    clear Q2
    rintro e w5 ⟨rfl, rfl⟩
    go_wp2_with fail
    go_ret
    exact ⟨rfl, Below.alloc HB.out HB.out.size _⟩
  · have d1 : decide (a < b) = false := decide_eq_false hab
    rw [d1] at L1
    by_cases hba : b < a
    · have e2 : A2 = 1 := by rw [H2.out]; unfold cmpI; rw [if_neg (by omega), if_pos (by omega)]
      subst e2
      have d2 : decide (b < a) = true := decide_eq_true hba
      rw [d2] at L2
      clear hab hba d1 d2 H2
      go_enter Tryd.func47, Tryd.ntmps47
      go_wp2_with fail
      refine (L1.out _).mono ?_
      rintro e w1 ⟨rfl, rfl⟩
      go_wp2_with fail
      refine (L2.out _).mono ?_
      rintro e w1 ⟨rfl, rfl⟩
      go_wp2_with fail
      refine wp_region_still_tail 16 (by kernel_rfl) (by kernel_rfl) ?_
      simp only [List.take_succ_cons, List.take_zero, List.drop_succ_cons, List.drop_zero]
      change wpStill Tryd.prog _ (((w.alloc (.cells #[.int .u8 k, .int .i64 i, .int .u64 r, .string t] 24)).alloc (.cells #[.int .u8 k', .int .i64 i', .int .u64 r', .string t'] 24)).drew) (fun a' => wpList Tryd.prog _ _ _ a' (((w.alloc (.cells #[.int .u8 k, .int .i64 i, .int .u64 r, .string t] 24)).alloc (.cells #[.int .u8 k', .int .i64 i', .int .u64 r', .string t'] 24)).drew)) _ _
      obtain ⟨W2, hW2, hb2, P, Q⟩ := two_boxes w #[.int .u8 k, .int .i64 i, .int .u64 r, .string t] #[.int .u8 k', .int .i64 i', .int .u64 r', .string t']
      have p0 : W2.cell? ⟨w.heap.size, 0, none⟩ = some (.int .u8 k) := P.cell 0
      have p1 : W2.cell? ⟨w.heap.size, 1, none⟩ = some (.int .i64 i) := P.cell 1
      have p3 : W2.cell? ⟨w.heap.size, 3, none⟩ = some (.string t) := P.cell 3
      have q0 : W2.cell? ⟨w.heap.size + 1, 0, none⟩ = some (.int .u8 k') := Q.cell 0
      have q1 : W2.cell? ⟨w.heap.size + 1, 1, none⟩ = some (.int .i64 i') := Q.cell 1
      have q3 : W2.cell? ⟨w.heap.size + 1, 3, none⟩ = some (.string t') := Q.cell 3
      rw [hW2]
      have HB := box hb2
      clear hW2 hb2 P Q
      repeat still_step
      still_call (D0.out _)
      repeat still_step
      still_call (D1.out _)
      repeat still_step
      still_call (D3.out _)
      refine wpStill_nil ?_
      go_wp2_with fail
      have Q2 := Whole1.made W2 3 #[.int .i64 A0, .int .i64 A1, .int .i64 1, .int .i64 A3]
      refine (C4.out _ _ _ _ rfl (Q2.cell 0) (Q2.cell 1) (Q2.cell 2) (Q2.cell 3)).mono ?_
      clear Q2
      rintro e w5 ⟨rfl, rfl⟩
      go_wp2_with fail
      go_ret
      exact ⟨rfl, Below.alloc HB.out HB.out.size _⟩
    · have e2 : A2 = 0 := by rw [H2.out]; unfold cmpI; rw [if_neg (by omega), if_neg (by omega)]
      subst e2
      have d2 : decide (b < a) = false := decide_eq_false hba
      rw [d2] at L2
      clear hab hba d1 d2 H2
      go_enter Tryd.func47, Tryd.ntmps47
      go_wp2_with fail
      refine (L1.out _).mono ?_
      rintro e w1 ⟨rfl, rfl⟩
      go_wp2_with fail
      refine (L2.out _).mono ?_
      rintro e w1 ⟨rfl, rfl⟩
      go_wp2_with fail
      refine wp_region_still_tail 16 (by kernel_rfl) (by kernel_rfl) ?_
      simp only [List.take_succ_cons, List.take_zero, List.drop_succ_cons, List.drop_zero]
      change wpStill Tryd.prog _ (((w.alloc (.cells #[.int .u8 k, .int .i64 i, .int .u64 r, .string t] 24)).alloc (.cells #[.int .u8 k', .int .i64 i', .int .u64 r', .string t'] 24)).drew) (fun a' => wpList Tryd.prog _ _ _ a' (((w.alloc (.cells #[.int .u8 k, .int .i64 i, .int .u64 r, .string t] 24)).alloc (.cells #[.int .u8 k', .int .i64 i', .int .u64 r', .string t'] 24)).drew)) _ _
      obtain ⟨W2, hW2, hb2, P, Q⟩ := two_boxes w #[.int .u8 k, .int .i64 i, .int .u64 r, .string t] #[.int .u8 k', .int .i64 i', .int .u64 r', .string t']
      have p0 : W2.cell? ⟨w.heap.size, 0, none⟩ = some (.int .u8 k) := P.cell 0
      have p1 : W2.cell? ⟨w.heap.size, 1, none⟩ = some (.int .i64 i) := P.cell 1
      have p3 : W2.cell? ⟨w.heap.size, 3, none⟩ = some (.string t) := P.cell 3
      have q0 : W2.cell? ⟨w.heap.size + 1, 0, none⟩ = some (.int .u8 k') := Q.cell 0
      have q1 : W2.cell? ⟨w.heap.size + 1, 1, none⟩ = some (.int .i64 i') := Q.cell 1
      have q3 : W2.cell? ⟨w.heap.size + 1, 3, none⟩ = some (.string t') := Q.cell 3
      rw [hW2]
      have HB := box hb2
      clear hW2 hb2 P Q
      repeat still_step
      still_call (D0.out _)
      repeat still_step
      still_call (D1.out _)
      repeat still_step
      still_call (D3.out _)
      refine wpStill_nil ?_
      go_wp2_with fail
      have Q2 := Whole1.made W2 3 #[.int .i64 A0, .int .i64 A1, .int .i64 0, .int .i64 A3]
      refine (C4.out _ _ _ _ rfl (Q2.cell 0) (Q2.cell 1) (Q2.cell 2) (Q2.cell 3)).mono ?_
      clear Q2
      rintro e w5 ⟨rfl, rfl⟩
      go_wp2_with fail
      go_ret
      exact ⟨rfl, Below.alloc HB.out HB.out.size _⟩

/-- value.Less -/
def lessV (x y : Val) : Bool := decide (cmpV x y < 0)
set_option maxHeartbeats 2000000 in
theorem less_v (x y : Val) (hx : x.Ok) (hy : y.Ok) (w : World) :
    Calls Tryd.prog 28 #[x.v, y.v] w fun e w' => e = .returned (.bool (lessV x y)) ∧ Below w.heap.size w w' := by
  have C := box (fun W => compare_any x y hx hy W)
  obtain ⟨c, hc⟩ : ∃ c, cmpV x y = c := ⟨_, rfl⟩
  rw [hc] at C
  have HL : Box (lessV x y = decide (c < 0)) := box (by unfold lessV; rw [hc])
  clear hc hx hy
  obtain ⟨k, i, r, t⟩ := x
  obtain ⟨k', i', r', t'⟩ := y
  unfold Val.v at *
  dsimp only at *
  obtain ⟨B, hB⟩ : ∃ B, lessV ⟨k, i, r, t⟩ ⟨k', i', r', t'⟩ = B := ⟨_, rfl⟩
  rw [hB] at HL ⊢
  clear hB
  go_enter Tryd.func28, Tryd.ntmps28
  go_wp2_with fail
  refine (C.out _).mono ?_
  rintro e w1 ⟨rfl, hb⟩
  have HB := box (below2' _ _ hb)
  clear hb
  go_wp2_with fail
  go_ret
  exact ⟨by rw [HL.out]; rfl, HB.out⟩
end Go.Proofs.YtafialodjnjihaaDoor
