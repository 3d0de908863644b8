/- key.Put's whole contract. Conditions: utf8's two tables read as the program lays them; MaxLen's cell holds a number. -/
import Derived.Test.YtafialodjnjihaaDoorPut
namespace Go.Proofs.YtafialodjnjihaaDoor
open Go Go.RowKit Go.BigFrame
set_option maxRecDepth 100000
set_option linter.unusedVariables false

/-- Has such a row a key? -/
def goodB (xs : List Val) : Bool := xs.isEmpty || rowMay xs
def putS (xs : List Val) : ByteArray := if goodB xs = true then ⟨(keyL xs).toArray⟩ else ⟨#[]⟩
def putE (xs : List Val) : Int := if goodB xs = true then 0 else 2
theorem good_of {xs : List Val} (h : goodB xs = true) (hok : ∀ x ∈ xs, x.Ok) : Good xs := by
  refine ⟨?_, hok⟩
  unfold goodB at h
  simp only [Bool.or_eq_true, List.isEmpty_iff] at h
  exact h
theorem Good.b {xs : List Val} (h : Good xs) : goodB xs = true := by
  unfold goodB
  simp only [Bool.or_eq_true, List.isEmpty_iff]
  exact h.row
theorem put_nil (a : Option Addr) (c : Nat) (w : World) :
    Calls Tryd.prog 33 #[.slice a 0 c] w fun e w' => e = .returned (.tuple #[.string ⟨#[]⟩, .int .i64 0]) ∧ Below w.heap.size w w' := by
  have h24 := size24
  have hcv := fun W : World => str_of_row (w := W) [] (World.ownsRow_nil W 0 5 1)
  simp only [List.toArray] at hcv
  go_enter Tryd.func33, Tryd.ntmps33
  go_wp2_with fail
  go_loopw [4, 17] (fun r i wr => r = .slice none 0 0 ∧ i = .int .i64 0 ∧ wr = w) (fun _ _ _ => 0)
  case atStart => exact ⟨rfl, rfl, rfl⟩
  case round =>
    obtain ⟨rfl, rfl, rfl⟩ := hrel
    go_wp2_with fail
    go_ret2
    exact ⟨rfl, Below.refl _ _⟩
theorem put_bad (a : Option Addr) (n c : Nat) (xs : List Val) (w : World) (hr : Vals w a n xs) (hT : Tabs6 w) (h0 : 0 < n) (hE : rowErr xs = 2) :
    Calls Tryd.prog 33 #[.slice a n c] w fun e w' => e = .returned (.tuple #[.string ⟨#[]⟩, .int .i64 2]) ∧ Below w.heap.size w w' := by
  have C16 := box (row_any a n c xs w hr hT.tabs)
  rw [hE] at C16
  have t0 : (0 : Int) < (n : Int) := by omega
  clear hr hT hE
  go_enter Tryd.func33, Tryd.ntmps33
  go_wp2_with fail
  refine C16.out.mono ?_
  rintro e w1 ⟨rfl, hb1⟩
  have B1 := box hb1
  clear hb1
  go_wp2_with fail
  go_ret2
  exact ⟨rfl, B1.out⟩
theorem put_any (a : Option Addr) (n c : Nat) (xs : List Val) (w : World) (hr : Vals w a n xs) (hT : Tabs6 w) :
    Calls Tryd.prog 33 #[.slice a n c] w fun e w' => e = .returned (.tuple #[.string (putS xs), .int .i64 (putE xs)]) ∧ Below w.heap.size w w' := by
  have hl := hr.1
  have hok : ∀ x ∈ xs, x.Ok := fun x hx => (hr.2.2.1 x hx).1
  rcases Nat.eq_zero_or_pos n with h0 | h0
  · subst h0
    obtain rfl : xs = [] := List.eq_nil_of_length_eq_zero hl
    exact put_nil a c w
  · cases hg : goodB xs with
    | true =>
      have h := put_some a n c xs w hr hT (good_of hg hok) h0
      unfold putS putE
      rw [if_pos hg, if_pos hg]; exact h
    | false =>
      have hE : rowErr xs = 2 := by
        unfold goodB at hg
        simp only [Bool.or_eq_false_iff] at hg
        unfold rowErr; rw [hg.2]; rfl
      have h := put_bad a n c xs w hr hT h0 hE
      unfold putS putE
      rw [hg]; exact h
end Go.Proofs.YtafialodjnjihaaDoor
