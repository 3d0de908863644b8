/- One value: may it be? The contracts of Check and of the reference's May, kind by kind. Condition: its parts fit their kinds. -/
import Derived.Test.YtafialodjnjihaaDoorRefReal
import Derived.Test.YtafialodjnjihaaDoorBox
import Derived.Test.YtafialodjnjihaaDoorNums
import Derived.Lib.ValidU
import Derived.Shelf.Unicode.DecodeSlow
namespace Go.Proofs.YtafialodjnjihaaDoor
open Go Go.RowKit
set_option maxRecDepth 100000
set_option linter.unusedVariables false

theorem nil_size {t : ByteArray} (h : t.toList = []) : t.size = 0 := by
  rw [Go.ByteArray.toList_eq] at h
  exact congrArg List.length h
theorem size_nil {t : ByteArray} (h : t.size = 0) : t.toList = [] := by
  rw [Go.ByteArray.toList_eq]
  exact List.eq_nil_of_length_eq_zero h
theorem fin_ok {A : Int} {p : Prop} [Decidable p] (h : A = if p then 0 else 2) (hp : p) : Ending.returned (.int .i64 0) = .returned (.int .i64 A) := by rw [h, if_pos hp]
theorem fin_no {A : Int} {p : Prop} [Decidable p] (h : A = if p then 0 else 2) (hp : ¬ p) : Ending.returned (.int .i64 2) = .returned (.int .i64 A) := by rw [h, if_neg hp]
theorem fin_b1 {A : Bool} {p : Prop} [Decidable p] (h : A = decide p) (hp : p) : Ending.returned (.bool true) = .returned (.bool A) := by rw [h, decide_eq_true hp]
theorem fin_b0 {A : Bool} {p : Prop} [Decidable p] (h : A = decide p) (hp : ¬ p) : Ending.returned (.bool false) = .returned (.bool A) := by rw [h, decide_eq_false hp]
theorem fin_bd {A : Bool} {p q : Prop} [Decidable p] [Decidable q] (h : A = decide p) (hp : p ↔ q) : Ending.returned (.bool (decide q)) = .returned (.bool A) := by rw [h, decide_eq_decide.2 hp]
theorem below2 (w : World) (a b : Obj) : Below w.heap.size w ((w.alloc a).alloc b) := ((Below.refl _ w).alloc (Nat.le_refl _) _).alloc (by simp) _
theorem below2' {w w' : World} (a b : Obj) (h : Below ((w.alloc a).alloc b).heap.size ((w.alloc a).alloc b) w') : Below w.heap.size w w' := (below2 w a b).trans (h.mono (by simp; omega))

/-- The tables of utf8. -/
def Tabs (w : World) : Prop := Lib.Utf8Tabs 1 2 w ∧ 2 < w.heap.size
theorem Tabs.below {w w' : World} (h : Tabs w) (hb : Below w.heap.size w w') : Tabs w' := by
  have h2 := h.2
  exact ⟨⟨fun c hc => (hb.cell (p := ⟨1, c, none⟩) (show 1 < _ by omega)).trans (h.1.1 c hc), fun i hi => ⟨(hb.cell (p := ⟨2, 2 * i, none⟩) (show 2 < _ by omega)).trans (h.1.2 i hi).1, (hb.cell (p := ⟨2, 2 * i + 1, none⟩) (show 2 < _ by omega)).trans (h.1.2 i hi).2⟩⟩, Nat.lt_of_lt_of_le h2 hb.size⟩
/-- utf8.ValidString, as its callers take it. -/
def ValidHas : Prop := ∀ (s : ByteArray) (W : World), s.size ≤ 9223372036854775807 → Tabs W → Calls Tryd.prog 27 #[.string s] W fun e w' => e = .returned (.bool (Lib.validD s.data.toList)) ∧ Below W.heap.size W w'
def valid (t : ByteArray) : Bool := Lib.validD t.data.toList

theorem wrap_u64 (i : Int) (h : -9223372036854775808 ≤ i ∧ i < 9223372036854775808) (h0 : i ≠ 0) (h1 : i ≠ 1) : (1 : Int) < IntKind.u64.wrap i := by rw [IntKind.wrap_u64]; omega

set_option maxHeartbeats 1000000 in
theorem check0 (i : Int) (A : Int) (r : Nat) (t : ByteArray) (w : World) (hi : -9223372036854775808 ≤ i ∧ i < 9223372036854775808) (hr : r < 18446744073709551616) (ht : t.size ≤ maxLen) (HA : Box (A = if i = 0 ∧ r = 0 ∧ t.size = 0 then 0 else 2)) :
    Calls Tryd.prog 14 #[.agg #[.int .u8 0, .int .i64 i, .int .u64 r, .string t]] w fun e w' => e = .returned (.int .i64 A) ∧ Below w.heap.size w w' := by
  go_enter Tryd.func14, Tryd.ntmps14
  go_wp2_with fail
  all_goals
    go_ret
    first
      | exact ⟨fin_ok HA.out (⟨by omega, by omega, nil_size ‹_›⟩), below2 w _ _⟩
      | exact ⟨fin_no HA.out (by intro h; first | omega | (exact absurd (size_nil (by omega)) ‹_›) | contradiction | (simp_all; done) | (simp_all; omega)), below2 w _ _⟩

set_option maxHeartbeats 1000000 in
theorem check1 (i : Int) (A : Int) (r : Nat) (t : ByteArray) (w : World) (hi : -9223372036854775808 ≤ i ∧ i < 9223372036854775808) (hr : r < 18446744073709551616) (ht : t.size ≤ maxLen) (HA : Box (A = if (i = 0 ∨ i = 1) ∧ r = 0 ∧ t.size = 0 then 0 else 2)) :
    Calls Tryd.prog 14 #[.agg #[.int .u8 1, .int .i64 i, .int .u64 r, .string t]] w fun e w' => e = .returned (.int .i64 A) ∧ Below w.heap.size w w' := by
  by_cases h0 : i = 0
  · have t0 : (i == 0) = true := by simp; omega
    have t0p : (i != 0) = false := by simp; omega
    have t1 : (i == 1) = false := by simp; omega
    have t1p : (i != 1) = true := by simp; omega
    have h2 : ¬ (1 : Int) < IntKind.u64.wrap i := by rw [IntKind.wrap_u64]; omega
    have HN := box h0
    clear h0 hi
    go_enter Tryd.func14, Tryd.ntmps14
    go_wp2_with fail
    all_goals
      go_ret
      first
        | exact ⟨fin_ok HA.out (⟨by have := HN.out; omega, by omega, nil_size ‹_›⟩), below2 w _ _⟩
        | exact ⟨fin_no HA.out (by intro h; first | omega | (exact absurd (size_nil (by omega)) ‹_›) | contradiction | (simp_all; done) | (simp_all; omega)), below2 w _ _⟩
  · by_cases h1 : i = 1
    · have t0 : (i == 0) = false := by simp; omega
      have t0p : (i != 0) = true := by simp; omega
      have t1 : (i == 1) = true := by simp; omega
      have t1p : (i != 1) = false := by simp; omega
      have h2 : ¬ (1 : Int) < IntKind.u64.wrap i := by rw [IntKind.wrap_u64]; omega
      have HN := box h1
      clear h0 h1 hi
      go_enter Tryd.func14, Tryd.ntmps14
      go_wp2_with fail
      all_goals
        go_ret
        first
          | exact ⟨fin_ok HA.out (⟨by have := HN.out; omega, by omega, nil_size ‹_›⟩), below2 w _ _⟩
          | exact ⟨fin_no HA.out (by intro h; first | omega | (exact absurd (size_nil (by omega)) ‹_›) | contradiction | (simp_all; done) | (simp_all; omega)), below2 w _ _⟩
    · have t0 : (i == 0) = false := by simp; omega
      have t0p : (i != 0) = true := by simp; omega
      have t1 : (i == 1) = false := by simp; omega
      have t1p : (i != 1) = true := by simp; omega
      have h2 : (1 : Int) < IntKind.u64.wrap i := wrap_u64 i hi h0 h1
      have HN := box (And.intro h0 h1)
      clear h0 h1 hi
      go_enter Tryd.func14, Tryd.ntmps14
      go_wp2_with fail
      go_ret
      exact ⟨fin_no HA.out (by have := HN.out; intro h; omega), below2 w _ _⟩

set_option maxHeartbeats 1000000 in
theorem check2 (i : Int) (A : Int) (r : Nat) (t : ByteArray) (w : World) (hi : -9223372036854775808 ≤ i ∧ i < 9223372036854775808) (hr : r < 18446744073709551616) (ht : t.size ≤ maxLen) (HA : Box (A = if r = 0 ∧ t.size = 0 then 0 else 2)) :
    Calls Tryd.prog 14 #[.agg #[.int .u8 2, .int .i64 i, .int .u64 r, .string t]] w fun e w' => e = .returned (.int .i64 A) ∧ Below w.heap.size w w' := by
  go_enter Tryd.func14, Tryd.ntmps14
  go_wp2_with fail
  all_goals
    go_ret
    first
      | exact ⟨fin_ok HA.out (⟨by omega, nil_size ‹_›⟩), below2 w _ _⟩
      | exact ⟨fin_no HA.out (by intro h; first | omega | (exact absurd (size_nil (by omega)) ‹_›) | contradiction | (simp_all; done) | (simp_all; omega)), below2 w _ _⟩

set_option maxHeartbeats 1000000 in
theorem check3 (i : Int) (A : Int) (r : Nat) (t : ByteArray) (w : World) (hi : -9223372036854775808 ≤ i ∧ i < 9223372036854775808) (hr : r < 18446744073709551616) (ht : t.size ≤ maxLen) (HA : Box (A = if i = 0 ∧ Rl.canon r = r ∧ t.size = 0 then 0 else 2)) :
    Calls Tryd.prog 14 #[.agg #[.int .u8 3, .int .i64 i, .int .u64 r, .string t]] w fun e w' => e = .returned (.int .i64 A) ∧ Below w.heap.size w w' := by
  have C := box (fun W => canon_any r W)
  obtain ⟨z, hz⟩ : ∃ z, Rl.canon r = z := ⟨_, rfl⟩
  rw [hz] at C HA
  clear hz
  go_enter Tryd.func14, Tryd.ntmps14
  go_wp2_with fail
  refine (C.out _).mono ?_
  rintro e w1 ⟨rfl, rfl⟩
  go_wp2_with fail
  all_goals
    go_ret
    first
      | exact ⟨fin_ok HA.out (⟨by omega, by omega, nil_size ‹_›⟩), below2 w _ _⟩
      | exact ⟨fin_no HA.out (by intro h; first | omega | (exact absurd (size_nil (by omega)) ‹_›) | contradiction | (simp_all; done) | (simp_all; omega)), below2 w _ _⟩

set_option maxHeartbeats 1000000 in
theorem check4 (i : Int) (A : Int) (r : Nat) (t : ByteArray) (w : World) (hi : -9223372036854775808 ≤ i ∧ i < 9223372036854775808) (hr : r < 18446744073709551616) (ht : t.size ≤ maxLen) (HA : Box (A = if i = 0 ∧ r = 0 ∧ t.size ≤ 100 then 0 else 2)) :
    Calls Tryd.prog 14 #[.agg #[.int .u8 4, .int .i64 i, .int .u64 r, .string t]] w fun e w' => e = .returned (.int .i64 A) ∧ Below w.heap.size w w' := by
  go_enter Tryd.func14, Tryd.ntmps14
  go_wp2_with fail
  all_goals
    go_ret
    first
      | exact ⟨fin_ok HA.out (⟨by omega, by omega, by omega⟩), below2 w _ _⟩
      | exact ⟨fin_no HA.out (by intro h; first | omega | (exact absurd (size_nil (by omega)) ‹_›) | contradiction | (simp_all; done) | (simp_all; omega)), below2 w _ _⟩

set_option maxHeartbeats 1000000 in
theorem check5 (i : Int) (A : Int) (r : Nat) (t : ByteArray) (w : World) (hi : -9223372036854775808 ≤ i ∧ i < 9223372036854775808) (hr : r < 18446744073709551616) (ht : t.size ≤ maxLen) (HV : ValidHas) (hT : Tabs w) (HA : Box (A = if i = 0 ∧ r = 0 ∧ valid t = true ∧ t.size ≤ 100 then 0 else 2)) :
    Calls Tryd.prog 14 #[.agg #[.int .u8 5, .int .i64 i, .int .u64 r, .string t]] w fun e w' => e = .returned (.int .i64 A) ∧ Below w.heap.size w w' := by
  have C := box (HV t ((w.alloc (.cells #[.int .u8 5, .int .i64 i, .int .u64 r, .string t] 24)).alloc (.cells #[.int .u8 5, .int .i64 0, .int .u64 0, .string ⟨#[]⟩] 24)) (by unfold maxLen at ht; omega) (hT.below (below2 w _ _)))
  have e5 : Lib.validD t.data.toList = valid t := rfl
  rw [e5] at C
  clear e5 hT
  cases hz : valid t with
  | true =>
    rw [hz] at C
    have HZ := box hz
    clear hz
    go_enter Tryd.func14, Tryd.ntmps14
    go_wp2_with fail
    refine C.out.mono ?_
    rintro e w1 ⟨rfl, hb⟩
    have HB := box (below2' _ _ hb)
    have c0 := (hb.cell (p := ⟨w.heap.size, 0, none⟩) (show w.heap.size < _ by simp; omega)).trans (show _ = some (.int .u8 5) by go_simp)
    have c1 := (hb.cell (p := ⟨w.heap.size, 1, none⟩) (show w.heap.size < _ by simp; omega)).trans (show _ = some (.int .i64 i) by go_simp)
    have c2 := (hb.cell (p := ⟨w.heap.size, 2, none⟩) (show w.heap.size < _ by simp; omega)).trans (show _ = some (.int .u64 r) by go_simp)
    have c3 := (hb.cell (p := ⟨w.heap.size, 3, none⟩) (show w.heap.size < _ by simp; omega)).trans (show _ = some (.string t) by go_simp)
    have d0 := (hb.cell (p := ⟨w.heap.size + 1, 0, none⟩) (show w.heap.size + 1 < _ by simp)).trans (show _ = some (.int .u8 5) by go_simp)
    have d1 := (hb.cell (p := ⟨w.heap.size + 1, 1, none⟩) (show w.heap.size + 1 < _ by simp)).trans (show _ = some (.int .i64 0) by go_simp)
    have d2 := (hb.cell (p := ⟨w.heap.size + 1, 2, none⟩) (show w.heap.size + 1 < _ by simp)).trans (show _ = some (.int .u64 0) by go_simp)
    have d3 := (hb.cell (p := ⟨w.heap.size + 1, 3, none⟩) (show w.heap.size + 1 < _ by simp)).trans (show _ = some (.string ⟨#[]⟩) by go_simp)
    have f3 := (hb.frozen (p := ⟨w.heap.size + 1, 3, none⟩) (show w.heap.size + 1 < _ by simp)).trans (show _ = false by go_simp)
    clear hb
    go_wp2_with fail
    all_goals
      go_ret
      first
        | exact ⟨fin_ok HA.out (⟨by omega, by omega, HZ.out, by omega⟩), HB.out.setCell (by simp) _⟩
        | exact ⟨fin_no HA.out (by intro h; first | omega | (exact absurd (size_nil (by omega)) ‹_›) | contradiction | (simp_all; done) | (simp_all; omega)), HB.out.setCell (by simp) _⟩
  | false =>
    rw [hz] at C
    have HZ := box hz
    clear hz
    go_enter Tryd.func14, Tryd.ntmps14
    go_wp2_with fail
    refine C.out.mono ?_
    rintro e w1 ⟨rfl, hb⟩
    have HB := box (below2' _ _ hb)
    clear hb
    go_wp2_with fail
    go_ret
    exact ⟨fin_no HA.out (by intro h; have h1 := h.2.2.1; rw [HZ.out] at h1; cases h1), HB.out⟩

set_option maxHeartbeats 1000000 in
theorem check6 (k : Nat) (i : Int) (r : Nat) (t : ByteArray) (w : World) (hk : 6 ≤ k) :
    Calls Tryd.prog 14 #[.agg #[.int .u8 k, .int .i64 i, .int .u64 r, .string t]] w fun e w' => e = .returned (.int .i64 2) ∧ Below w.heap.size w w' := by
  have t0 : ((k : Int) == 0) = false := beq_eq_false_iff_ne.2 (by omega)
  have t1 : ((k : Int) == 1) = false := beq_eq_false_iff_ne.2 (by omega)
  have t2 : ((k : Int) == 2) = false := beq_eq_false_iff_ne.2 (by omega)
  have t3 : ((k : Int) == 3) = false := beq_eq_false_iff_ne.2 (by omega)
  have t4 : ((k : Int) == 4) = false := beq_eq_false_iff_ne.2 (by omega)
  have t5 : ((k : Int) == 5) = false := beq_eq_false_iff_ne.2 (by omega)
  clear hk
  go_enter Tryd.func14, Tryd.ntmps14
  go_wp2_with fail
  go_ret
  exact ⟨rfl, below2 w _ _⟩

set_option maxHeartbeats 1000000 in
theorem may0 (i : Int) (A : Bool) (r : Nat) (t : ByteArray) (w : World) (hi : -9223372036854775808 ≤ i ∧ i < 9223372036854775808) (hr : r < 18446744073709551616) (ht : t.size ≤ maxLen) (HA : Box (A = decide (i = 0 ∧ r = 0 ∧ t.size = 0))) :
    Calls Tryd.prog 15 #[.agg #[.int .u8 0, .int .i64 i, .int .u64 r, .string t]] w fun e w' => e = .returned (.bool A) ∧ Below w.heap.size w w' := by
  go_enter Tryd.func15, Tryd.ntmps15
  go_wp2_with fail
  all_goals
    go_ret
    first
      | exact ⟨fin_b1 HA.out (⟨by omega, by omega, nil_size ‹_›⟩), below2 w _ _⟩
      | exact ⟨fin_b0 HA.out (by intro h; first | omega | (exact absurd (size_nil (by omega)) ‹_›) | contradiction | (simp_all; done) | (simp_all; omega)), below2 w _ _⟩
      | exact ⟨fin_bd HA.out (by have hs := nil_size ‹_›; omega), below2 w _ _⟩

set_option maxHeartbeats 1000000 in
theorem may1 (i : Int) (A : Bool) (r : Nat) (t : ByteArray) (w : World) (hi : -9223372036854775808 ≤ i ∧ i < 9223372036854775808) (hr : r < 18446744073709551616) (ht : t.size ≤ maxLen) (HA : Box (A = decide ((i = 0 ∨ i = 1) ∧ r = 0 ∧ t.size = 0))) :
    Calls Tryd.prog 15 #[.agg #[.int .u8 1, .int .i64 i, .int .u64 r, .string t]] w fun e w' => e = .returned (.bool A) ∧ Below w.heap.size w w' := by
  by_cases h0 : i = 0
  · have t0 : (i == 0) = true := by simp; omega
    have t0p : (i != 0) = false := by simp; omega
    have t1 : (i == 1) = false := by simp; omega
    have t1p : (i != 1) = true := by simp; omega
    have h2 : ¬ (1 : Int) < IntKind.u64.wrap i := by rw [IntKind.wrap_u64]; omega
    have HN := box h0
    clear h0 hi
    go_enter Tryd.func15, Tryd.ntmps15
    go_wp2_with fail
    all_goals
      go_ret
      first
        | exact ⟨fin_b1 HA.out (⟨by have := HN.out; omega, by omega, nil_size ‹_›⟩), below2 w _ _⟩
        | exact ⟨fin_b0 HA.out (by intro h; first | omega | (exact absurd (size_nil (by omega)) ‹_›) | contradiction | (simp_all; done) | (simp_all; omega)), below2 w _ _⟩
        | exact ⟨fin_bd HA.out (by have := HN.out; have hs := nil_size ‹_›; omega), below2 w _ _⟩
  · by_cases h1 : i = 1
    · have t0 : (i == 0) = false := by simp; omega
      have t0p : (i != 0) = true := by simp; omega
      have t1 : (i == 1) = true := by simp; omega
      have t1p : (i != 1) = false := by simp; omega
      have h2 : ¬ (1 : Int) < IntKind.u64.wrap i := by rw [IntKind.wrap_u64]; omega
      have HN := box h1
      clear h0 h1 hi
      go_enter Tryd.func15, Tryd.ntmps15
      go_wp2_with fail
      all_goals
        go_ret
        first
          | exact ⟨fin_b1 HA.out (⟨by have := HN.out; omega, by omega, nil_size ‹_›⟩), below2 w _ _⟩
          | exact ⟨fin_b0 HA.out (by intro h; first | omega | (exact absurd (size_nil (by omega)) ‹_›) | contradiction | (simp_all; done) | (simp_all; omega)), below2 w _ _⟩
          | exact ⟨fin_bd HA.out (by have := HN.out; have hs := nil_size ‹_›; omega), below2 w _ _⟩
    · have t0 : (i == 0) = false := by simp; omega
      have t0p : (i != 0) = true := by simp; omega
      have t1 : (i == 1) = false := by simp; omega
      have t1p : (i != 1) = true := by simp; omega
      have h2 : (1 : Int) < IntKind.u64.wrap i := wrap_u64 i hi h0 h1
      have HN := box (And.intro h0 h1)
      clear h0 h1 hi
      go_enter Tryd.func15, Tryd.ntmps15
      go_wp2_with fail
      go_ret
      exact ⟨fin_b0 HA.out (by have := HN.out; intro h; omega), below2 w _ _⟩

set_option maxHeartbeats 1000000 in
theorem may2 (i : Int) (A : Bool) (r : Nat) (t : ByteArray) (w : World) (hi : -9223372036854775808 ≤ i ∧ i < 9223372036854775808) (hr : r < 18446744073709551616) (ht : t.size ≤ maxLen) (HA : Box (A = decide (r = 0 ∧ t.size = 0))) :
    Calls Tryd.prog 15 #[.agg #[.int .u8 2, .int .i64 i, .int .u64 r, .string t]] w fun e w' => e = .returned (.bool A) ∧ Below w.heap.size w w' := by
  go_enter Tryd.func15, Tryd.ntmps15
  go_wp2_with fail
  all_goals
    go_ret
    first
      | exact ⟨fin_b1 HA.out (⟨by omega, nil_size ‹_›⟩), below2 w _ _⟩
      | exact ⟨fin_b0 HA.out (by intro h; first | omega | (exact absurd (size_nil (by omega)) ‹_›) | contradiction | (simp_all; done) | (simp_all; omega)), below2 w _ _⟩
      | exact ⟨fin_bd HA.out (by have hs := nil_size ‹_›; omega), below2 w _ _⟩

set_option maxHeartbeats 1000000 in
theorem may3 (i : Int) (A : Bool) (r : Nat) (t : ByteArray) (w : World) (hi : -9223372036854775808 ≤ i ∧ i < 9223372036854775808) (hr : r < 18446744073709551616) (ht : t.size ≤ maxLen) (HA : Box (A = decide (i = 0 ∧ Rl.canon r = r ∧ t.size = 0))) :
    Calls Tryd.prog 15 #[.agg #[.int .u8 3, .int .i64 i, .int .u64 r, .string t]] w fun e w' => e = .returned (.bool A) ∧ Below w.heap.size w w' := by
  have C := box (fun W => refcanon_any r W hr)
  obtain ⟨z, hz⟩ : ∃ z, Rl.canon r = z := ⟨_, rfl⟩
  rw [hz] at C HA
  clear hz
  go_enter Tryd.func15, Tryd.ntmps15
  go_wp2_with fail
  refine (C.out _).mono ?_
  rintro e w1 ⟨rfl, rfl⟩
  go_wp2_with fail
  all_goals
    go_ret
    first
      | exact ⟨fin_b1 HA.out (⟨by omega, by omega, nil_size ‹_›⟩), below2 w _ _⟩
      | exact ⟨fin_b0 HA.out (by intro h; first | omega | (exact absurd (size_nil (by omega)) ‹_›) | contradiction | (simp_all; done) | (simp_all; omega)), below2 w _ _⟩
      | exact ⟨fin_bd HA.out (by have hs := nil_size ‹_›; omega), below2 w _ _⟩

set_option maxHeartbeats 1000000 in
theorem may4 (i : Int) (A : Bool) (r : Nat) (t : ByteArray) (w : World) (hi : -9223372036854775808 ≤ i ∧ i < 9223372036854775808) (hr : r < 18446744073709551616) (ht : t.size ≤ maxLen) (HA : Box (A = decide (i = 0 ∧ r = 0 ∧ t.size ≤ 100))) :
    Calls Tryd.prog 15 #[.agg #[.int .u8 4, .int .i64 i, .int .u64 r, .string t]] w fun e w' => e = .returned (.bool A) ∧ Below w.heap.size w w' := by
  go_enter Tryd.func15, Tryd.ntmps15
  go_wp2_with fail
  all_goals
    go_ret
    first
      | exact ⟨fin_b1 HA.out (⟨by omega, by omega, by omega⟩), below2 w _ _⟩
      | exact ⟨fin_b0 HA.out (by intro h; first | omega | (exact absurd (size_nil (by omega)) ‹_›) | contradiction | (simp_all; done) | (simp_all; omega)), below2 w _ _⟩
      | exact ⟨fin_bd HA.out (by omega), below2 w _ _⟩

set_option maxHeartbeats 1000000 in
theorem may5 (i : Int) (A : Bool) (r : Nat) (t : ByteArray) (w : World) (hi : -9223372036854775808 ≤ i ∧ i < 9223372036854775808) (hr : r < 18446744073709551616) (ht : t.size ≤ maxLen) (HV : ValidHas) (hT : Tabs w) (HA : Box (A = decide (i = 0 ∧ r = 0 ∧ valid t = true ∧ t.size ≤ 100))) :
    Calls Tryd.prog 15 #[.agg #[.int .u8 5, .int .i64 i, .int .u64 r, .string t]] w fun e w' => e = .returned (.bool A) ∧ Below w.heap.size w w' := by
  have C := box (HV t ((w.alloc (.cells #[.int .u8 5, .int .i64 i, .int .u64 r, .string t] 24)).alloc (.cells #[.int .u8 5, .int .i64 0, .int .u64 0, .string ⟨#[]⟩] 24)) (by unfold maxLen at ht; omega) (hT.below (below2 w _ _)))
  have e5 : Lib.validD t.data.toList = valid t := rfl
  rw [e5] at C
  clear e5 hT
  cases hz : valid t with
  | true =>
    rw [hz] at C
    have HZ := box hz
    clear hz
    go_enter Tryd.func15, Tryd.ntmps15
    go_wp2_with fail
    refine C.out.mono ?_
    rintro e w1 ⟨rfl, hb⟩
    have HB := box (below2' _ _ hb)
    have c0 := (hb.cell (p := ⟨w.heap.size, 0, none⟩) (show w.heap.size < _ by simp; omega)).trans (show _ = some (.int .u8 5) by go_simp)
    have c1 := (hb.cell (p := ⟨w.heap.size, 1, none⟩) (show w.heap.size < _ by simp; omega)).trans (show _ = some (.int .i64 i) by go_simp)
    have c2 := (hb.cell (p := ⟨w.heap.size, 2, none⟩) (show w.heap.size < _ by simp; omega)).trans (show _ = some (.int .u64 r) by go_simp)
    have c3 := (hb.cell (p := ⟨w.heap.size, 3, none⟩) (show w.heap.size < _ by simp; omega)).trans (show _ = some (.string t) by go_simp)
    have d0 := (hb.cell (p := ⟨w.heap.size + 1, 0, none⟩) (show w.heap.size + 1 < _ by simp)).trans (show _ = some (.int .u8 5) by go_simp)
    have d1 := (hb.cell (p := ⟨w.heap.size + 1, 1, none⟩) (show w.heap.size + 1 < _ by simp)).trans (show _ = some (.int .i64 0) by go_simp)
    have d2 := (hb.cell (p := ⟨w.heap.size + 1, 2, none⟩) (show w.heap.size + 1 < _ by simp)).trans (show _ = some (.int .u64 0) by go_simp)
    have d3 := (hb.cell (p := ⟨w.heap.size + 1, 3, none⟩) (show w.heap.size + 1 < _ by simp)).trans (show _ = some (.string ⟨#[]⟩) by go_simp)
    have f3 := (hb.frozen (p := ⟨w.heap.size + 1, 3, none⟩) (show w.heap.size + 1 < _ by simp)).trans (show _ = false by go_simp)
    clear hb
    go_wp2_with fail
    all_goals
      go_ret
      first
        | exact ⟨fin_b1 HA.out (⟨by omega, by omega, HZ.out, by omega⟩), HB.out.setCell (by simp) _⟩
        | exact ⟨fin_b0 HA.out (by intro h; first | omega | (exact absurd (size_nil (by omega)) ‹_›) | contradiction | (simp_all; done) | (simp_all; omega)), HB.out.setCell (by simp) _⟩
        | exact ⟨fin_bd HA.out (by constructor; (intro h; omega); (intro h; exact ⟨by omega, by omega, HZ.out, by omega⟩)), HB.out.setCell (by simp) _⟩
  | false =>
    rw [hz] at C
    have HZ := box hz
    clear hz
    go_enter Tryd.func15, Tryd.ntmps15
    go_wp2_with fail
    refine C.out.mono ?_
    rintro e w1 ⟨rfl, hb⟩
    have HB := box (below2' _ _ hb)
    clear hb
    go_wp2_with fail
    go_ret
    exact ⟨fin_b0 HA.out (by intro h; have h1 := h.2.2.1; rw [HZ.out] at h1; cases h1), HB.out⟩

set_option maxHeartbeats 1000000 in
theorem may6 (k : Nat) (i : Int) (r : Nat) (t : ByteArray) (w : World) (hk : 6 ≤ k) :
    Calls Tryd.prog 15 #[.agg #[.int .u8 k, .int .i64 i, .int .u64 r, .string t]] w fun e w' => e = .returned (.bool false) ∧ Below w.heap.size w w' := by
  have t0 : ((k : Int) == 0) = false := beq_eq_false_iff_ne.2 (by omega)
  have t1 : ((k : Int) == 1) = false := beq_eq_false_iff_ne.2 (by omega)
  have t2 : ((k : Int) == 2) = false := beq_eq_false_iff_ne.2 (by omega)
  have t3 : ((k : Int) == 3) = false := beq_eq_false_iff_ne.2 (by omega)
  have t4 : ((k : Int) == 4) = false := beq_eq_false_iff_ne.2 (by omega)
  have t5 : ((k : Int) == 5) = false := beq_eq_false_iff_ne.2 (by omega)
  clear hk
  go_enter Tryd.func15, Tryd.ntmps15
  go_wp2_with fail
  go_ret
  exact ⟨rfl, below2 w _ _⟩

/-- A value. -/
structure Val where
  kind : Nat
  int : Int
  real : Nat
  text : ByteArray
def Val.v (x : Val) : Value := .agg #[.int .u8 x.kind, .int .i64 x.int, .int .u64 x.real, .string x.text]
/-- Its parts fit their kinds. -/
structure Val.Ok (x : Val) : Prop where
  kind : x.kind < 256
  int : -9223372036854775808 ≤ x.int ∧ x.int < 9223372036854775808
  real : x.real < 18446744073709551616
  text : x.text.size ≤ maxLen
/-- May it be? -/
def Val.may (x : Val) : Bool :=
  if x.kind = 0 then decide (x.int = 0 ∧ x.real = 0 ∧ x.text.size = 0)
  else if x.kind = 1 then decide ((x.int = 0 ∨ x.int = 1) ∧ x.real = 0 ∧ x.text.size = 0)
  else if x.kind = 2 then decide (x.real = 0 ∧ x.text.size = 0)
  else if x.kind = 3 then decide (x.int = 0 ∧ Rl.canon x.real = x.real ∧ x.text.size = 0)
  else if x.kind = 4 then decide (x.int = 0 ∧ x.real = 0 ∧ x.text.size ≤ 100)
  else if x.kind = 5 then decide (x.int = 0 ∧ x.real = 0 ∧ valid x.text = true ∧ x.text.size ≤ 100)
  else false
def Val.err (x : Val) : Int := if x.may = true then 0 else 2
theorem err_of {x : Val} {p : Prop} [Decidable p] (h : x.may = decide p) : x.err = if p then 0 else 2 := by
  unfold Val.err; rw [h]; by_cases hp : p <;> simp [hp]
theorem check_any (x : Val) (hx : x.Ok) (w : World) (HV : ValidHas) (hT : Tabs w) :
    Calls Tryd.prog 14 #[x.v] w fun e w' => e = .returned (.int .i64 x.err) ∧ Below w.heap.size w w' := by
  obtain ⟨k, i, r, t⟩ := x
  obtain ⟨hk, hi, hr, ht⟩ := hx
  dsimp only at hk hi hr ht
  by_cases h0 : k = 0
  · subst h0; exact check0 i _ r t w hi hr ht (box (err_of rfl))
  by_cases h1 : k = 1
  · subst h1; exact check1 i _ r t w hi hr ht (box (err_of rfl))
  by_cases h2 : k = 2
  · subst h2; exact check2 i _ r t w hi hr ht (box (err_of rfl))
  by_cases h3 : k = 3
  · subst h3; exact check3 i _ r t w hi hr ht (box (err_of rfl))
  by_cases h4 : k = 4
  · subst h4; exact check4 i _ r t w hi hr ht (box (err_of rfl))
  by_cases h5 : k = 5
  · subst h5; exact check5 i _ r t w hi hr ht HV hT (box (err_of rfl))
  have e : (⟨k, i, r, t⟩ : Val).err = 2 := by unfold Val.err Val.may; simp [h0, h1, h2, h3, h4, h5]
  rw [e]
  exact check6 k i r t w (by omega)
theorem may_any (x : Val) (hx : x.Ok) (w : World) (HV : ValidHas) (hT : Tabs w) :
    Calls Tryd.prog 15 #[x.v] w fun e w' => e = .returned (.bool x.may) ∧ Below w.heap.size w w' := by
  obtain ⟨k, i, r, t⟩ := x
  obtain ⟨hk, hi, hr, ht⟩ := hx
  dsimp only at hk hi hr ht
  by_cases h0 : k = 0
  · subst h0; exact may0 i _ r t w hi hr ht (box rfl)
  by_cases h1 : k = 1
  · subst h1; exact may1 i _ r t w hi hr ht (box rfl)
  by_cases h2 : k = 2
  · subst h2; exact may2 i _ r t w hi hr ht (box rfl)
  by_cases h3 : k = 3
  · subst h3; exact may3 i _ r t w hi hr ht (box rfl)
  by_cases h4 : k = 4
  · subst h4; exact may4 i _ r t w hi hr ht (box rfl)
  by_cases h5 : k = 5
  · subst h5; exact may5 i _ r t w hi hr ht HV hT (box rfl)
  have e : (⟨k, i, r, t⟩ : Val).may = false := by unfold Val.may; simp [h0, h1, h2, h3, h4, h5]
  rw [e]
  exact may6 k i r t w (by omega)
end Go.Proofs.YtafialodjnjihaaDoor
