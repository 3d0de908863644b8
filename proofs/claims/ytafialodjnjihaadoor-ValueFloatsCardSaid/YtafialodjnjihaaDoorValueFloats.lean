/- ValueFloats, the walk: values of floats are in the order of numbers, NaN is behind all, noughts are apart. Condition: utf8's two tables read as the program lays them. -/
import Derived.Test.YtafialodjnjihaaDoorAlive04
import Derived.Test.YtafialodjnjihaaDoorLater
import Derived.BigQuiet
import Derived.Deep.RegionWith
namespace Go.Proofs.YtafialodjnjihaaDoor
open Go Go.RowKit Go.BigFrame
set_option maxRecDepth 100000
set_option linter.unusedVariables false

theorem cmpI_self (a : Int) : cmpI a a = 0 := by unfold cmpI; rw [if_neg (by omega), if_neg (by omega)]
theorem cmpI_neg (a b : Int) : decide (cmpI a b < 0) = decide (a < b) := by
  unfold cmpI
  by_cases h : a < b
  · rw [if_pos h, decide_eq_true h]; rfl
  · rw [if_neg h, decide_eq_false h]
    by_cases h2 : b < a
    · rw [if_pos h2]; rfl
    · rw [if_neg h2]; rfl
theorem less_reals (c d : Nat) : lessV ⟨3, 0, c, ⟨#[]⟩⟩ ⟨3, 0, d, ⟨#[]⟩⟩ = decide (Rl.key c < Rl.key d) := by
  unfold lessV cmpV
  dsimp only
  rw [if_neg (by rw [cmpI_self]; exact fun h => h rfl), if_neg (by rw [cmpI_self]; exact fun h => h rfl)]
  have e : cmpT ⟨#[]⟩ ⟨#[]⟩ = 0 := by decide +kernel
  rw [e]
  have h := cmpI_neg (Rl.key c : Nat) (Rl.key d : Nat)
  by_cases hz : cmpI (Rl.key c : Nat) (Rl.key d : Nat) = 0
  · rw [if_neg (by simp [hz])]
    rw [hz] at h
    have : ¬ Rl.key c < Rl.key d := by
      intro hh
      have : decide ((Rl.key c : Int) < (Rl.key d : Int)) = true := by simp; omega
      rw [this] at h; cases h
    rw [decide_eq_false this]; rfl
  · rw [if_pos hz, h]
    by_cases hk : Rl.key c < Rl.key d
    · rw [decide_eq_true hk, decide_eq_true (by omega)]
    · rw [decide_eq_false hk, decide_eq_false (by omega)]
theorem ok_real (c : Nat) (hc : c < 18446744073709551616) : Val.Ok ⟨3, 0, c, ⟨#[]⟩⟩ := ⟨show (3 : Nat) < 256 by decide, show -9223372036854775808 ≤ (0 : Int) ∧ (0 : Int) < 9223372036854775808 by decide, hc, show (⟨#[]⟩ : ByteArray).size ≤ maxLen by decide⟩
/-- Less of two floats' values. -/
theorem less_real (c d : Nat) (hc : c < 18446744073709551616) (hd : d < 18446744073709551616) (B : Bool) (hB : B = decide (Rl.key c < Rl.key d)) (w : World) :
    Calls Tryd.prog 28 #[.agg #[.int .u8 3, .int .i64 0, .int .u64 c, .string ⟨#[]⟩], .agg #[.int .u8 3, .int .i64 0, .int .u64 d, .string ⟨#[]⟩]] w fun e w' => e = .returned (.bool B) ∧ Below w.heap.size w w' := by
  have h := less_v ⟨3, 0, c, ⟨#[]⟩⟩ ⟨3, 0, d, ⟨#[]⟩⟩ (ok_real c hc) (ok_real d hd) w
  rw [less_reals, ← hB] at h
  exact h
theorem key_low {x : Nat} (hx : x < 18446744073709551616) (hn : Rl.nan x = false) : Rl.keyOf x < Rl.keyOf 9221120237041090561 := by
  have h := Rl.not_nan hn
  unfold Rl.keyOf
  rw [if_pos (show 9221120237041090561 < 9223372036854775808 by decide)]
  split <;> omega
theorem key_canon (x : Nat) : Rl.key (Rl.canon x) = Rl.keyOf (Rl.canon x) := by unfold Rl.key; rw [Rl.canon_canon]

/-- math.Signbit -/
def signB (x : Nat) : Bool := decide (9223372036854775808 ≤ x)
theorem signbit_any (x : Nat) (w : World) (hx : x < 18446744073709551616) : Calls Tryd.prog 29 #[.float .f64 x] w fun e w' => e = .returned (.bool (signB x)) ∧ w = w' := by
  have b := fun w => bits64 x w
  by_cases h : 9223372036854775808 ≤ x
  · have e : signB x = true := decide_eq_true h
    have e2 : decide (IntKind.i64.wrap (x : Int) < 0) = true := decide_eq_true (by rw [IntKind.wrap_i64]; omega)
    rw [e]
    have e3 : IntKind.i64.wrap (x : Int) < 0 := by rw [IntKind.wrap_i64]; omega
    have e4 : wrap64 (x : Int) < 0 := by unfold wrap64; omega
    clear h hx e e3 e2
    go_enter Tryd.func29, Tryd.ntmps29
    go_wp2_with fail
    go_ret
    exact ⟨by simp, rfl⟩
  · have e : signB x = false := decide_eq_false h
    have e3 : ¬ IntKind.i64.wrap (x : Int) < 0 := by rw [IntKind.wrap_i64]; omega
    rw [e]
    have e4 : ¬ wrap64 (x : Int) < 0 := by unfold wrap64; omega
    clear h hx e e3
    go_enter Tryd.func29, Tryd.ntmps29
    go_wp2_with fail
    go_ret
    exact ⟨by simp, rfl⟩
theorem two_cells (w : World) (cs cs' : Array Value) : ∃ W2, (w.alloc (.cells cs 24)).alloc (.cells cs' 24) = W2 ∧ Below w.heap.size w W2 ∧ Whole1 W2 w.heap.size 24 cs ∧ Whole1 W2 (w.heap.size + 1) 24 cs' := by
  refine ⟨_, rfl, below2 w _ _, (Whole1.made w 24 cs).alloc _, ?_⟩
  have := Whole1.made (w.alloc (.cells cs 24)) 24 cs'
  rw [World.size_alloc] at this
  exact this

set_option maxHeartbeats 4000000 in
theorem floats_nan (x y c d : Nat) (nx ny B E : Bool) (w : World) (hT : Tabs w) (RX : Box (∀ W, Calls Tryd.prog 22 #[.float .f64 x] W fun e w' => e = .returned (.agg #[.int .u8 3, .int .i64 0, .int .u64 c, .string ⟨#[]⟩]) ∧ Below W.heap.size W w')) (RY : Box (∀ W, Calls Tryd.prog 22 #[.float .f64 y] W fun e w' => e = .returned (.agg #[.int .u8 3, .int .i64 0, .int .u64 d, .string ⟨#[]⟩]) ∧ Below W.heap.size W w'))
    (LS : Box (∀ W, Calls Tryd.prog 28 #[.agg #[.int .u8 3, .int .i64 0, .int .u64 c, .string ⟨#[]⟩], .agg #[.int .u8 3, .int .i64 0, .int .u64 d, .string ⟨#[]⟩]] W fun e w' => e = .returned (.bool B) ∧ Below W.heap.size W w'))
    (ox : (FloatKind.f64.format.order x x != some .eq) = nx) (oy : (FloatKind.f64.format.order y y != some .eq) = ny) (ox' : (FloatKind.f64.format.order x x == some .eq) = !nx) (oy' : (FloatKind.f64.format.order y y == some .eq) = !ny)
    (e1 : ((c : Int) == (d : Int)) = E) (e2 : (c == d) = E) (hcase : (nx, ny, B, E) = (true, true, false, true) ∨ (nx, ny, B, E) = (true, false, false, false) ∨ (nx, ny, B, E) = (false, true, true, false)) :
    Calls Tryd.prog 5 #[.float .f64 x, .float .f64 y] w fun e w' => e = .returned (.bool true) ∧ Below w.heap.size w w' := by
  have HT := box hT
  clear hT
  rcases hcase with h | h | h
  all_goals
    simp only [Prod.mk.injEq] at h
    obtain ⟨rfl, rfl, rfl, rfl⟩ := h
    go_enter Tryd.func5, Tryd.ntmps5
    go_wp2_with fail
    refine (RX.out _).mono ?_
    rintro e w1 ⟨rfl, hb1⟩
    have B1 := box hb1
    clear hb1
    go_wp2_with fail
    refine (RY.out _).mono ?_
    rintro e w2 ⟨rfl, hb2⟩
    have B2 := box (Below.grown B1.out (Only.below hb2 none) B1.out.size (by simp))
    clear hb2
    go_wp2_with fail
    obtain ⟨W2, hW2, hb3, P, Q⟩ := two_cells w2 #[.int .u8 3, .int .i64 0, .int .u64 c, .string ⟨#[]⟩] #[.int .u8 3, .int .i64 0, .int .u64 d, .string ⟨#[]⟩]
    have B3 := box (Below.grown B2.out (Only.below hb3 none) B2.out.size (by simp))
    have PP := box P
    have QQ := box Q
    clear hb3
    rw [hW2]
    clear hW2
    refine (LS.out _).mono ?_
    rintro e w4 ⟨rfl, hb4⟩
    have B4 := box (Below.grown B3.out (Only.below hb4 none) B3.out.size (by simp))
    have PP4 := box (PP.out.below hb4 PP.out.lt)
    have QQ4 := box (QQ.out.below hb4 QQ.out.lt)
    clear hb4
    have p0 : w4.cell? ⟨w2.heap.size, 0, none⟩ = some (.int .u8 3) := PP4.out.cell 0
    have p1 : w4.cell? ⟨w2.heap.size, 1, none⟩ = some (.int .i64 0) := PP4.out.cell 1
    have p2 : w4.cell? ⟨w2.heap.size, 2, none⟩ = some (.int .u64 c) := PP4.out.cell 2
    have p3 : w4.cell? ⟨w2.heap.size, 3, none⟩ = some (.string ⟨#[]⟩) := PP4.out.cell 3
    have q0 : w4.cell? ⟨w2.heap.size + 1, 0, none⟩ = some (.int .u8 3) := QQ4.out.cell 0
    have q1 : w4.cell? ⟨w2.heap.size + 1, 1, none⟩ = some (.int .i64 0) := QQ4.out.cell 1
    have q2 : w4.cell? ⟨w2.heap.size + 1, 2, none⟩ = some (.int .u64 d) := QQ4.out.cell 2
    have q3 : w4.cell? ⟨w2.heap.size + 1, 3, none⟩ = some (.string ⟨#[]⟩) := QQ4.out.cell 3
    have HT4 := box (HT.out.below B4.out)
    go_wp2_with fail
    refine (alive04 _ HT4.out).mono ?_
    rintro e w5 ⟨rfl, hb5⟩
    have B5 := box (Below.grown B4.out (Only.below hb5 none) B4.out.size (by simp))
    clear hb5
    go_wp2_with fail
    go_ret
    exact ⟨rfl, B5.out⟩

set_option maxHeartbeats 4000000 in
theorem floats_ne (x y c d : Nat) (B : Bool) (w : World) (hT : Tabs w) (RX : Box (∀ W, Calls Tryd.prog 22 #[.float .f64 x] W fun e w' => e = .returned (.agg #[.int .u8 3, .int .i64 0, .int .u64 c, .string ⟨#[]⟩]) ∧ Below W.heap.size W w')) (RY : Box (∀ W, Calls Tryd.prog 22 #[.float .f64 y] W fun e w' => e = .returned (.agg #[.int .u8 3, .int .i64 0, .int .u64 d, .string ⟨#[]⟩]) ∧ Below W.heap.size W w'))
    (LS : Box (∀ W, Calls Tryd.prog 28 #[.agg #[.int .u8 3, .int .i64 0, .int .u64 c, .string ⟨#[]⟩], .agg #[.int .u8 3, .int .i64 0, .int .u64 d, .string ⟨#[]⟩]] W fun e w' => e = .returned (.bool B) ∧ Below W.heap.size W w'))
    (ox : (FloatKind.f64.format.order x x != some .eq) = false) (oy : (FloatKind.f64.format.order y y != some .eq) = false) (oxy : (FloatKind.f64.format.order x y == some .eq) = false) (olt : (FloatKind.f64.format.order x y == some .lt) = B)
    (e1 : ((c : Int) == (d : Int)) = false) (e2 : (c == d) = false) :
    Calls Tryd.prog 5 #[.float .f64 x, .float .f64 y] w fun e w' => e = .returned (.bool true) ∧ Below w.heap.size w w' := by
  have HT := box hT
  clear hT
  have e3 : ((c : Int) != (d : Int)) = true := by rw [bne, e1]; rfl
  cases B
  all_goals
    go_enter Tryd.func5, Tryd.ntmps5
    go_wp2_with fail
    refine (RX.out _).mono ?_
    rintro e w1 ⟨rfl, hb1⟩
    have B1 := box hb1
    clear hb1
    go_wp2_with fail
    refine (RY.out _).mono ?_
    rintro e w2 ⟨rfl, hb2⟩
    have B2 := box (Below.grown B1.out (Only.below hb2 none) B1.out.size (by simp))
    clear hb2
    go_wp2_with fail
    obtain ⟨W2, hW2, hb3, P, Q⟩ := two_cells w2 #[.int .u8 3, .int .i64 0, .int .u64 c, .string ⟨#[]⟩] #[.int .u8 3, .int .i64 0, .int .u64 d, .string ⟨#[]⟩]
    have B3 := box (Below.grown B2.out (Only.below hb3 none) B2.out.size (by simp))
    have PP := box P
    have QQ := box Q
    clear hb3
    rw [hW2]
    clear hW2
    refine (LS.out _).mono ?_
    rintro e w4 ⟨rfl, hb4⟩
    have B4 := box (Below.grown B3.out (Only.below hb4 none) B3.out.size (by simp))
    have PP4 := box (PP.out.below hb4 PP.out.lt)
    have QQ4 := box (QQ.out.below hb4 QQ.out.lt)
    clear hb4
    have p0 : w4.cell? ⟨w2.heap.size, 0, none⟩ = some (.int .u8 3) := PP4.out.cell 0
    have p1 : w4.cell? ⟨w2.heap.size, 1, none⟩ = some (.int .i64 0) := PP4.out.cell 1
    have p2 : w4.cell? ⟨w2.heap.size, 2, none⟩ = some (.int .u64 c) := PP4.out.cell 2
    have p3 : w4.cell? ⟨w2.heap.size, 3, none⟩ = some (.string ⟨#[]⟩) := PP4.out.cell 3
    have q0 : w4.cell? ⟨w2.heap.size + 1, 0, none⟩ = some (.int .u8 3) := QQ4.out.cell 0
    have q1 : w4.cell? ⟨w2.heap.size + 1, 1, none⟩ = some (.int .i64 0) := QQ4.out.cell 1
    have q2 : w4.cell? ⟨w2.heap.size + 1, 2, none⟩ = some (.int .u64 d) := QQ4.out.cell 2
    have q3 : w4.cell? ⟨w2.heap.size + 1, 3, none⟩ = some (.string ⟨#[]⟩) := QQ4.out.cell 3
    have HT4 := box (HT.out.below B4.out)
    go_wp2_with fail
    refine (alive04 _ HT4.out).mono ?_
    rintro e w5 ⟨rfl, hb5⟩
    have B5 := box (Below.grown B4.out (Only.below hb5 none) B4.out.size (by simp))
    clear hb5
    go_wp2_with fail
    go_ret
    exact ⟨rfl, B5.out⟩

set_option maxHeartbeats 4000000 in
theorem floats_eq (x y c d : Nat) (B E sx sy : Bool) (w : World) (hT : Tabs w) (RX : Box (∀ W, Calls Tryd.prog 22 #[.float .f64 x] W fun e w' => e = .returned (.agg #[.int .u8 3, .int .i64 0, .int .u64 c, .string ⟨#[]⟩]) ∧ Below W.heap.size W w')) (RY : Box (∀ W, Calls Tryd.prog 22 #[.float .f64 y] W fun e w' => e = .returned (.agg #[.int .u8 3, .int .i64 0, .int .u64 d, .string ⟨#[]⟩]) ∧ Below W.heap.size W w'))
    (LS : Box (∀ W, Calls Tryd.prog 28 #[.agg #[.int .u8 3, .int .i64 0, .int .u64 c, .string ⟨#[]⟩], .agg #[.int .u8 3, .int .i64 0, .int .u64 d, .string ⟨#[]⟩]] W fun e w' => e = .returned (.bool B) ∧ Below W.heap.size W w'))
    (GX : Box (∀ W, Calls Tryd.prog 29 #[.float .f64 x] W fun e w' => e = .returned (.bool sx) ∧ W = w')) (GY : Box (∀ W, Calls Tryd.prog 29 #[.float .f64 y] W fun e w' => e = .returned (.bool sy) ∧ W = w'))
    (ox : (FloatKind.f64.format.order x x != some .eq) = false) (oy : (FloatKind.f64.format.order y y != some .eq) = false) (oxy : (FloatKind.f64.format.order x y == some .eq) = true)
    (e1 : ((c : Int) == (d : Int)) = E) (e2 : (c == d) = E) (hcase : (E, sx, sy, B) = (true, true, true, false) ∨ (E, sx, sy, B) = (true, false, false, false) ∨ (E, sx, sy, B) = (false, true, false, true) ∨ (E, sx, sy, B) = (false, false, true, false)) :
    Calls Tryd.prog 5 #[.float .f64 x, .float .f64 y] w fun e w' => e = .returned (.bool true) ∧ Below w.heap.size w w' := by
  have HT := box hT
  clear hT
  rcases hcase with h | h | h | h
  all_goals
    simp only [Prod.mk.injEq] at h
    obtain ⟨rfl, rfl, rfl, rfl⟩ := h
    go_enter Tryd.func5, Tryd.ntmps5
    go_wp2_with fail
    refine (RX.out _).mono ?_
    rintro e w1 ⟨rfl, hb1⟩
    have B1 := box hb1
    clear hb1
    go_wp2_with fail
    refine (RY.out _).mono ?_
    rintro e w2 ⟨rfl, hb2⟩
    have B2 := box (Below.grown B1.out (Only.below hb2 none) B1.out.size (by simp))
    clear hb2
    go_wp2_with fail
    obtain ⟨W2, hW2, hb3, P, Q⟩ := two_cells w2 #[.int .u8 3, .int .i64 0, .int .u64 c, .string ⟨#[]⟩] #[.int .u8 3, .int .i64 0, .int .u64 d, .string ⟨#[]⟩]
    have B3 := box (Below.grown B2.out (Only.below hb3 none) B2.out.size (by simp))
    have PP := box P
    have QQ := box Q
    clear hb3
    rw [hW2]
    clear hW2
    have p0 : ∀ z : Later W2, z.world.cell? ⟨w2.heap.size, 0, none⟩ = some (.int .u8 3) := fun z => (PP.out.below z.below PP.out.lt).cell 0
    have p1 : ∀ z : Later W2, z.world.cell? ⟨w2.heap.size, 1, none⟩ = some (.int .i64 0) := fun z => (PP.out.below z.below PP.out.lt).cell 1
    have p2 : ∀ z : Later W2, z.world.cell? ⟨w2.heap.size, 2, none⟩ = some (.int .u64 c) := fun z => (PP.out.below z.below PP.out.lt).cell 2
    have p3 : ∀ z : Later W2, z.world.cell? ⟨w2.heap.size, 3, none⟩ = some (.string ⟨#[]⟩) := fun z => (PP.out.below z.below PP.out.lt).cell 3
    have q0 : ∀ z : Later W2, z.world.cell? ⟨w2.heap.size + 1, 0, none⟩ = some (.int .u8 3) := fun z => (QQ.out.below z.below QQ.out.lt).cell 0
    have q1 : ∀ z : Later W2, z.world.cell? ⟨w2.heap.size + 1, 1, none⟩ = some (.int .i64 0) := fun z => (QQ.out.below z.below QQ.out.lt).cell 1
    have q2 : ∀ z : Later W2, z.world.cell? ⟨w2.heap.size + 1, 2, none⟩ = some (.int .u64 d) := fun z => (QQ.out.below z.below QQ.out.lt).cell 2
    have q3 : ∀ z : Later W2, z.world.cell? ⟨w2.heap.size + 1, 3, none⟩ = some (.string ⟨#[]⟩) := fun z => (QQ.out.below z.below QQ.out.lt).cell 3
    have a0 : W2.cell? ⟨w2.heap.size, 0, none⟩ = some (.int .u8 3) := PP.out.cell 0
    have a1 : W2.cell? ⟨w2.heap.size, 1, none⟩ = some (.int .i64 0) := PP.out.cell 1
    have a2 : W2.cell? ⟨w2.heap.size, 2, none⟩ = some (.int .u64 c) := PP.out.cell 2
    have a3 : W2.cell? ⟨w2.heap.size, 3, none⟩ = some (.string ⟨#[]⟩) := PP.out.cell 3
    have b0 : W2.cell? ⟨w2.heap.size + 1, 0, none⟩ = some (.int .u8 3) := QQ.out.cell 0
    have b1 : W2.cell? ⟨w2.heap.size + 1, 1, none⟩ = some (.int .i64 0) := QQ.out.cell 1
    have b2 : W2.cell? ⟨w2.heap.size + 1, 2, none⟩ = some (.int .u64 d) := QQ.out.cell 2
    have b3 : W2.cell? ⟨w2.heap.size + 1, 3, none⟩ = some (.string ⟨#[]⟩) := QQ.out.cell 3
    have AL : Box (∀ z : Later W2, Calls Tryd.prog 12 #[] z.world fun e w' => e = .returned (.bool true) ∧ Below z.world.heap.size z.world w') := box (fun z => alive04 _ (HT.out.below (Below.grown B3.out (Only.below z.below none) B3.out.size (by simp))))
    refine wp_region_later W2 (by kernel_rfl) (by kernel_rfl) (Below.refl _ _) ?_
    repeat (go_big_quiet_step (first | (go_at_call_of 29 (Value.float FloatKind.f64 x); exact Calls.laterSame (GX.out _)) | (go_at_call 29; exact Calls.laterSame (GY.out _)) | (go_at_call 28; exact Calls.later (LS.out _)) | (go_at_call 12; exact Calls.later (AL.out _))))
    refine wpQuiet_nil ?_
    rintro _ ⟨nq, rfl⟩
    go_wp2_with fail
    go_ret
    exact ⟨rfl, Below.grown B3.out (Only.below nq.below none) B3.out.size (by simp)⟩

theorem beq_of_nan {x : Nat} (h : Rl.nan x = true) : (FloatKind.f64.format.order x x == some .eq) = false := by
  have := Rl.order_self x
  rw [h] at this
  have h2 : (FloatKind.f64.format.order x x != some .eq) = true := this
  rw [bne] at h2
  simpa using h2
theorem S_eq_cases {x y : Nat} (hx : x < 18446744073709551616) (hy : y < 18446744073709551616) (h : Rl.S x = Rl.S y) : x = y ∨ (x = 0 ∧ y = 9223372036854775808) ∨ (x = 9223372036854775808 ∧ y = 0) := by
  by_cases hz : Rl.S x = 0
  · have hz2 : Rl.S y = 0 := by rw [← h]; exact hz
    have h1 := Rl.S_zero_iff.1 hz
    have h2 := Rl.S_zero_iff.1 hz2
    omega
  · left
    have h1 := Rl.S_lt_iff hx hy (fun hh => hz hh.1)
    have h2 := Rl.S_lt_iff hy hx (fun hh => hz hh.2)
    rw [h] at h1 h2
    have h3 : ¬ Rl.keyOf x < Rl.keyOf y := fun hh => absurd (h1.2 hh) (by omega)
    have h4 : ¬ Rl.keyOf y < Rl.keyOf x := fun hh => absurd (h2.2 hh) (by omega)
    exact Rl.keyOf_inj hx hy (by omega)
theorem nat_int_beq {a b : Nat} {E : Bool} (h : (a == b) = E) : ((a : Int) == (b : Int)) = E := by
  rw [← h]
  by_cases hab : a = b
  · simp [hab]
  · have h1 : (a == b) = false := by simp [hab]
    have h2 : ((a : Int) == (b : Int)) = false := by simp; omega
    rw [h1, h2]

theorem valueFloats_walk (x : Nat) (hx : x < 18446744073709551616) (y : Nat) (hy : y < 18446744073709551616) (w : World) (hT : Tabs w) :
    Calls Tryd.prog 5 #[.float .f64 x, .float .f64 y] w fun e w' => e = .returned (.bool true) ∧ Below w.heap.size w w' := by
  have RX := box (fun W => real_any x W)
  have RY := box (fun W => real_any y W)
  have hcx := Rl.canon_lt hx
  have hcy := Rl.canon_lt hy
  have LS : ∀ B, B = decide (Rl.keyOf (Rl.canon x) < Rl.keyOf (Rl.canon y)) → _ := fun B (hB : B = decide (Rl.keyOf (Rl.canon x) < Rl.keyOf (Rl.canon y))) => box (fun W => less_real (Rl.canon x) (Rl.canon y) hcx hcy B (by rw [key_canon, key_canon]; exact hB) W)
  have sx := Rl.order_self x
  have sy := Rl.order_self y
  have nn : ∀ {z : Nat}, Rl.nan z = false → (FloatKind.f64.format.order z z == some .eq) = true := fun {z} h => by
    have h1 := Rl.order_self z
    rw [h] at h1
    have h2 : (FloatKind.f64.format.order z z != some .eq) = false := h1
    rw [bne] at h2
    simpa using h2
  have cne : ∀ {z u : Nat}, Rl.nan z ≠ Rl.nan u → (Rl.canon z == Rl.canon u) = false := fun {z u} h => by
    have : Rl.canon z ≠ Rl.canon u := by
      intro e
      apply h
      rw [← Rl.canon_nan_iff z, ← Rl.canon_nan_iff u, e]
    simp [this]
  cases hnx : Rl.nan x with
  | true =>
    cases hny : Rl.nan y with
    | true =>
      rw [hnx] at sx; rw [hny] at sy
      have ex := Rl.canon_nan hnx
      have ey := Rl.canon_nan hny
      have e1 : (Rl.canon x == Rl.canon y) = true := by rw [ex, ey]; rfl
      exact floats_nan x y _ _ true true false true w hT RX RY (LS _ (by rw [ex, ey, decide_eq_false (by omega)])) sx sy (beq_of_nan hnx) (beq_of_nan hny) (nat_int_beq e1) e1 (.inl rfl)
    | false =>
      rw [hnx] at sx; rw [hny] at sy
      have ex := Rl.canon_nan hnx
      have ey := Rl.canon_of hny
      have e1 : (Rl.canon x == Rl.canon y) = false := cne (by rw [hnx, hny]; decide)
      have hk := key_low hy hny
      exact floats_nan x y _ _ true false false false w hT RX RY (LS _ (by rw [ex, ey, decide_eq_false (by omega)])) sx sy (beq_of_nan hnx) (nn hny) (nat_int_beq e1) e1 (.inr (.inl rfl))
  | false =>
    cases hny : Rl.nan y with
    | true =>
      rw [hnx] at sx; rw [hny] at sy
      have ex := Rl.canon_of hnx
      have ey := Rl.canon_nan hny
      have e1 : (Rl.canon x == Rl.canon y) = false := cne (by rw [hnx, hny]; decide)
      have hk := key_low hx hnx
      exact floats_nan x y _ _ false true true false w hT RX RY (LS _ (by rw [ex, ey, decide_eq_true hk])) sx sy (nn hnx) (beq_of_nan hny) (nat_int_beq e1) e1 (.inr (.inr rfl))
    | false =>
      rw [hnx] at sx; rw [hny] at sy
      have ex := Rl.canon_of hnx
      have ey := Rl.canon_of hny
      have ho : FloatKind.f64.format.order x y = some (compare (Rl.S x) (Rl.S y)) := Rl.order_eq hnx hny
      rw [ex, ey] at LS
      rw [ex] at RX
      rw [ey] at RY
      by_cases hS : Rl.S x = Rl.S y
      · have oxy : (FloatKind.f64.format.order x y == some .eq) = true := by rw [ho, Rl.cmp_eq' hS]; rfl
        have GX := box (fun W => signbit_any x W hx)
        have GY := box (fun W => signbit_any y W hy)
        rcases S_eq_cases hx hy hS with rfl | ⟨rfl, rfl⟩ | ⟨rfl, rfl⟩
        · have e1 : (x == x) = true := by simp
          refine floats_eq x x _ _ false true (signB x) (signB x) w hT RX RY (LS _ (by rw [decide_eq_false (by omega)])) GX GY sx sy oxy (nat_int_beq e1) e1 ?_
          cases signB x
          · exact .inr (.inl rfl)
          · exact .inl rfl
        · have e1 : ((0 : Nat) == 9223372036854775808) = false := by decide
          exact floats_eq _ _ _ _ false false (signB 0) (signB 9223372036854775808) w hT RX RY (LS _ (by decide +kernel)) GX GY sx sy oxy (nat_int_beq e1) e1 (.inr (.inr (.inr (by decide +kernel))))
        · have e1 : ((9223372036854775808 : Nat) == 0) = false := by decide
          exact floats_eq _ _ _ _ true false (signB 9223372036854775808) (signB 0) w hT RX RY (LS _ (by decide +kernel)) GX GY sx sy oxy (nat_int_beq e1) e1 (.inr (.inr (.inl (by decide +kernel))))
      · have hxy : x ≠ y := fun e => hS (by rw [e])
        have e1 : (x == y) = false := by simp [hxy]
        have hk := Rl.S_lt_iff hx hy (fun h => hS (by rw [h.1, h.2]))
        by_cases hlt : Rl.S x < Rl.S y
        · have oxy : (FloatKind.f64.format.order x y == some .eq) = false := by rw [ho, Rl.cmp_lt hlt]; rfl
          have olt : (FloatKind.f64.format.order x y == some .lt) = true := by rw [ho, Rl.cmp_lt hlt]; rfl
          exact floats_ne x y _ _ true w hT RX RY (LS _ (by rw [decide_eq_true (hk.1 hlt)])) sx sy oxy olt (nat_int_beq e1) e1
        · have hgt : Rl.S y < Rl.S x := by omega
          have oxy : (FloatKind.f64.format.order x y == some .eq) = false := by rw [ho, Rl.cmp_gt hgt]; rfl
          have olt : (FloatKind.f64.format.order x y == some .lt) = false := by rw [ho, Rl.cmp_gt hgt]; rfl
          exact floats_ne x y _ _ false w hT RX RY (LS _ (by rw [decide_eq_false (fun h => hlt (hk.2 h))])) sx sy oxy olt (nat_int_beq e1) e1
end Go.Proofs.YtafialodjnjihaaDoor
