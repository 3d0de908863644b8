/- The order of values and of rows, plain. No condition. -/
import Derived.Test.YtafialodjnjihaaDoorCopy
import Derived.Test.YtafialodjnjihaaDoorAlive04
import Derived.Test.YtafialodjnjihaaDoorLater
import Derived.BigQuiet
namespace Go.Proofs.YtafialodjnjihaaDoor
open Go Go.RowKit Go.BigFrame
set_option maxRecDepth 100000
set_option linter.unusedVariables false

/-- Two values are the same. -/
def eqV (x y : Val) : Bool := decide (x.kind = y.kind) && (decide (x.int = y.int) && (decide (x.real = y.real) && decide (x.text = y.text)))
theorem eqV_iff (x y : Val) : eqV x y = true ↔ x = y := by
  obtain ⟨k, i, r, t⟩ := x
  obtain ⟨k', i', r', t'⟩ := y
  simp [eqV]
/-- value.RowLess, plain -/
def rowLess : List Val → List Val → Bool
  | [], [] => false
  | [], _ :: _ => true
  | _ :: _, [] => false
  | x :: xs, y :: ys => if eqV x y then rowLess xs ys else lessV x y
/-- value.Same, plain -/
def rowSame : List Val → List Val → Bool
  | [], [] => true
  | x :: xs, y :: ys => eqV x y && rowSame xs ys
  | _, _ => false

/-! compareBytes is an order -/
theorem cmpB_self (l : List UInt8) : Lib.compareBytes l l = 0 := by
  induction l with
  | nil => rfl
  | cons a l ih => unfold Lib.compareBytes; rw [if_neg (by simp), if_neg (by simp)]; exact ih
theorem cmpB_neg : ∀ (a b : List UInt8), Lib.compareBytes a b = - Lib.compareBytes b a := by
  intro a
  induction a with
  | nil => intro b; cases b <;> rfl
  | cons x a ih =>
    intro b
    cases b with
    | nil => rfl
    | cons y b =>
      unfold Lib.compareBytes
      by_cases h : x < y
      · have h2 : ¬ y < x := by simp only [UInt8.lt_iff_toNat_lt] at *; omega
        rw [if_pos h, if_neg h2, if_pos h]
      · by_cases h2 : y < x
        · rw [if_neg h, if_pos h2, if_pos h2]; rfl
        · rw [if_neg h, if_neg h2, if_neg h2, if_neg h]; exact ih b
theorem cmpB_zero : ∀ (a b : List UInt8), Lib.compareBytes a b = 0 → a = b := by
  intro a
  induction a with
  | nil => intro b h; cases b with | nil => rfl | cons y b => simp [Lib.compareBytes] at h
  | cons x a ih =>
    intro b h
    cases b with
    | nil => simp [Lib.compareBytes] at h
    | cons y b =>
      unfold Lib.compareBytes at h
      by_cases h1 : x < y
      · rw [if_pos h1] at h; cases h
      · by_cases h2 : y < x
        · rw [if_neg h1, if_pos h2] at h; cases h
        · rw [if_neg h1, if_neg h2] at h
          have e : x = y := by simp only [UInt8.lt_iff_toNat_lt] at *; exact UInt8.toNat_inj.1 (by omega)
          rw [e, ih b h]
theorem cmpB_trans : ∀ (a b c : List UInt8), Lib.compareBytes a b < 0 → Lib.compareBytes b c < 0 → Lib.compareBytes a c < 0 := by
  intro a
  induction a with
  | nil =>
    intro b c h1 h2
    cases b with
    | nil => simp [Lib.compareBytes] at h1
    | cons y b => cases c with
      | nil => simp [Lib.compareBytes] at h2
      | cons z c => simp [Lib.compareBytes]
  | cons x a ih =>
    intro b c h1 h2
    cases b with
    | nil => simp [Lib.compareBytes] at h1
    | cons y b => cases c with
      | nil => simp [Lib.compareBytes] at h2
      | cons z c =>
        unfold Lib.compareBytes at h1 h2 ⊢
        simp only [UInt8.lt_iff_toNat_lt] at *
        by_cases p : x.toNat < z.toNat
        · rw [if_pos p]; decide
        · rw [if_neg p]
          by_cases p2 : z.toNat < x.toNat
          · exfalso
            split at h1
            · split at h2 <;> first | omega | (split at h2 <;> omega)
            · split at h1
              · omega
              · split at h2 <;> first | omega | (split at h2 <;> omega)
          · rw [if_neg p2]
            split at h1
            · split at h2 <;> first | omega | (split at h2 <;> omega)
            · split at h1
              · omega
              · split at h2
                · omega
                · split at h2
                  · omega
                  · exact ih b c h1 h2
/-! cmpV is an order on what may be -/
theorem cmpI_anti (a b : Int) : cmpI a b = - cmpI b a := by unfold cmpI; split <;> split <;> (try split) <;> omega
theorem cmpI_zero {a b : Int} (h : cmpI a b = 0) : a = b := by unfold cmpI at h; split at h <;> (try split at h) <;> omega
theorem cmpI_lt {a b : Int} : cmpI a b < 0 ↔ a < b := by unfold cmpI; split <;> (try split) <;> omega
theorem cmpI_eq {a b : Int} : cmpI a b = 0 ↔ a = b := ⟨cmpI_zero, fun h => by rw [h]; unfold cmpI; rw [if_neg (by omega), if_neg (by omega)]⟩
theorem cmpV_lt (x y : Val) : cmpV x y < 0 ↔ x.kind < y.kind ∨ (x.kind = y.kind ∧ (x.int < y.int ∨ (x.int = y.int ∧ (Rl.key x.real < Rl.key y.real ∨ (Rl.key x.real = Rl.key y.real ∧ cmpT x.text y.text < 0))))) := by
  unfold cmpV
  have a1 := @cmpI_lt x.kind y.kind
  have a2 := @cmpI_eq x.kind y.kind
  have b1 := @cmpI_lt x.int y.int
  have b2 := @cmpI_eq x.int y.int
  have c1 := @cmpI_lt (Rl.key x.real : Nat) (Rl.key y.real : Nat)
  have c2 := @cmpI_eq (Rl.key x.real : Nat) (Rl.key y.real : Nat)
  split
  · rename_i h; omega
  · rename_i h
    split
    · rename_i h'; omega
    · rename_i h'
      split
      · rename_i h2; omega
      · rename_i h2; omega
theorem cmpV_zero (x y : Val) : cmpV x y = 0 ↔ x.kind = y.kind ∧ x.int = y.int ∧ Rl.key x.real = Rl.key y.real ∧ cmpT x.text y.text = 0 := by
  unfold cmpV
  have a2 := @cmpI_eq x.kind y.kind
  have b2 := @cmpI_eq x.int y.int
  have c2 := @cmpI_eq (Rl.key x.real : Nat) (Rl.key y.real : Nat)
  split
  · rename_i h; omega
  · rename_i h
    split
    · rename_i h'; omega
    · rename_i h'
      split
      · rename_i h2; omega
      · rename_i h2; omega
theorem cmpT_neg (a b : ByteArray) : cmpT a b = - cmpT b a := cmpB_neg _ _
theorem lex_neg (A B C D : Int) : (if -A ≠ 0 then -A else if -B ≠ 0 then -B else if -C ≠ 0 then -C else -D) = -(if A ≠ 0 then A else if B ≠ 0 then B else if C ≠ 0 then C else D) := by
  by_cases hA : A = 0
  · by_cases hB : B = 0
    · by_cases hC : C = 0
      · simp [hA, hB, hC]
      · simp [hA, hB, hC]
    · simp [hA, hB]
  · simp [hA]
theorem cmpV_neg (x y : Val) : cmpV x y = - cmpV y x := by
  unfold cmpV
  rw [cmpI_anti x.kind y.kind, cmpI_anti x.int y.int, cmpI_anti (Rl.key x.real : Nat) (Rl.key y.real : Nat), cmpT_neg x.text y.text]
  exact lex_neg _ _ _ _
theorem may_canon {x : Val} (h : x.may = true) : Rl.canon x.real = x.real := by
  have c0 := canon_d
  unfold Val.may at h
  split at h
  · simp at h; rw [h.2.1]; exact c0
  · split at h
    · simp at h; rw [h.2.1]; exact c0
    · split at h
      · simp at h; rw [h.1]; exact c0
      · split at h
        · simp at h; exact h.2.1
        · split at h
          · simp at h; rw [h.2.1]; exact c0
          · split at h
            · simp at h; rw [h.2.1]; exact c0
            · cases h
theorem cmpV_same {x y : Val} (hx : x.may = true) (hy : y.may = true) (ox : x.real < 18446744073709551616) (oy : y.real < 18446744073709551616) : cmpV x y = 0 ↔ x = y := by
  constructor
  · intro h
    obtain ⟨h1, h2, h3, h4⟩ := (cmpV_zero x y).1 h
    unfold Rl.key at h3
    rw [may_canon hx, may_canon hy] at h3
    have h5 := Rl.keyOf_inj ox oy h3
    have h6 : x.text = y.text := ByteArray.ext (Array.toList_inj.1 (cmpB_zero _ _ h4))
    obtain ⟨k, i, r, t⟩ := x
    obtain ⟨k', i', r', t'⟩ := y
    dsimp only at h1 h2 h5 h6
    subst h1; subst h2; subst h5; subst h6; rfl
  · rintro rfl
    exact (cmpV_zero x x).2 ⟨rfl, rfl, rfl, cmpB_self _⟩
theorem cmpV_trans {x y z : Val} (h1 : cmpV x y < 0) (h2 : cmpV y z < 0) : cmpV x z < 0 := by
  rw [cmpV_lt] at h1 h2 ⊢
  have ht : cmpT x.text y.text < 0 → cmpT y.text z.text < 0 → cmpT x.text z.text < 0 := cmpB_trans _ _ _
  omega
theorem lessV_trans {x y z : Val} (h1 : lessV x y = true) (h2 : lessV y z = true) : lessV x z = true := by
  unfold lessV at *
  simp only [decide_eq_true_eq] at *
  exact cmpV_trans h1 h2
/-- Of two values that may be just one is ahead, or they are the same. -/
theorem lessV_one {x y : Val} (hx : x.may = true) (hy : y.may = true) (ox : x.real < 18446744073709551616) (oy : y.real < 18446744073709551616) :
    (lessV x y = true ∧ lessV y x = false ∧ eqV x y = false) ∨ (lessV x y = false ∧ lessV y x = true ∧ eqV x y = false) ∨ (lessV x y = false ∧ lessV y x = false ∧ eqV x y = true) := by
  have h1 := cmpV_neg x y
  have h2 := cmpV_same hx hy ox oy
  have h3 : eqV x y = decide (cmpV x y = 0) := by
    by_cases h : x = y
    · rw [(eqV_iff x y).2 h, decide_eq_true (h2.2 h)]
    · rw [decide_eq_false (fun hh => h (h2.1 hh))]
      cases he : eqV x y
      · rfl
      · exact absurd ((eqV_iff x y).1 he) h
  unfold lessV
  rw [h3]
  rcases Int.lt_trichotomy (cmpV x y) 0 with h | h | h
  · left; simp; omega
  · right; right; simp; omega
  · right; left; simp; omega
theorem eqV_comm (x y : Val) : eqV x y = eqV y x := by
  by_cases h : x = y
  · rw [h]
  · cases h1 : eqV x y <;> cases h2 : eqV y x <;> first | rfl | exact absurd ((eqV_iff _ _).1 h1) h | exact absurd ((eqV_iff _ _).1 h2).symm h
def AllMay (l : List Val) : Prop := ∀ x ∈ l, x.may = true ∧ x.real < 18446744073709551616
/-- Of two rows just one is ahead, or they are the same. -/
theorem rowLess_one : ∀ (l m : List Val), AllMay l → AllMay m →
    (rowLess l m = true ∧ rowLess m l = false ∧ rowSame l m = false) ∨ (rowLess l m = false ∧ rowLess m l = true ∧ rowSame l m = false) ∨ (rowLess l m = false ∧ rowLess m l = false ∧ rowSame l m = true) := by
  intro l
  induction l with
  | nil => intro m _ _; cases m <;> simp [rowLess, rowSame]
  | cons x l ih =>
    intro m hl hm
    cases m with
    | nil => simp [rowLess, rowSame]
    | cons y m =>
      have hx := hl x List.mem_cons_self
      have hy := hm y List.mem_cons_self
      have h1 := lessV_one hx.1 hy.1 hx.2 hy.2
      have h2 := ih m (fun z hz => hl z (List.mem_cons_of_mem _ hz)) (fun z hz => hm z (List.mem_cons_of_mem _ hz))
      unfold rowLess rowSame
      rw [eqV_comm y x]
      rcases h1 with ⟨a, b, c⟩ | ⟨a, b, c⟩ | ⟨a, b, c⟩
      · rw [a, b, c]; simp
      · rw [a, b, c]; simp
      · rw [c]; simpa using h2
theorem rowLess_trans : ∀ (l m n : List Val), rowLess l m = true → rowLess m n = true → (∀ x ∈ l, ∀ y ∈ m, lessV x y = true → lessV y x = false) → rowLess l n = true := by
  intro l
  induction l with
  | nil =>
    intro m n h1 h2 _
    cases n with
    | nil => cases m <;> simp [rowLess] at h2
    | cons z n => rfl
  | cons x l ih =>
    intro m n h1 h2 ha
    cases m with
    | nil => simp [rowLess] at h1
    | cons y m => cases n with
      | nil => simp [rowLess] at h2
      | cons z n =>
        unfold rowLess at h1 h2 ⊢
        by_cases e1 : eqV x y = true
        · rw [if_pos e1] at h1
          obtain rfl := (eqV_iff x y).1 e1
          by_cases e2 : eqV x z = true
          · rw [if_pos e2] at h2
            rw [if_pos e2]
            exact ih m n h1 h2 (fun p hp q hq => ha p (List.mem_cons_of_mem _ hp) q (List.mem_cons_of_mem _ hq))
          · rw [if_neg e2] at h2 ⊢
            exact h2
        · rw [if_neg e1] at h1
          by_cases e2 : eqV y z = true
          · obtain rfl := (eqV_iff y z).1 e2
            rw [if_neg e1]; exact h1
          · rw [if_neg e2] at h2
            have h3 := lessV_trans h1 h2
            have h4 : ¬ eqV x z = true := by
              intro e
              obtain rfl := (eqV_iff x z).1 e
              have := ha x List.mem_cons_self y List.mem_cons_self h1
              rw [this] at h2; cases h2
            rw [if_neg h4]; exact h3
end Go.Proofs.YtafialodjnjihaaDoor
