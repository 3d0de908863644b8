/- Reading frames, plain: where it stops, with what. No condition. -/
import Derived.Test.YtafialodjnjihaaAlls
namespace Go.Proofs.Ytafialodjnjihaa
open Go Go.RowKit Go.BigFrame
set_option maxRecDepth 100000
set_option linter.unusedVariables false

/-- What is left of bytes from a place on. -/
def rest (b : ByteArray) (at_ : Nat) : ByteArray := b.extract at_ b.size
/-- Behind k whole frames: where, and their texts; none: fewer are whole. -/
def st (b : ByteArray) : Nat → Option (Nat × List ByteArray)
  | 0 => some (0, [])
  | k + 1 => match st b k with
    | none => none
    | some (p, l) => if p < b.size ∧ (nxt (rest b p)).2 = 0 then some (p + 12 + (nxt (rest b p)).1.size, l ++ [(nxt (rest b p)).1]) else none
theorem st_none {b : ByteArray} {k : Nat} (h : st b k = none) : ∀ j, k ≤ j → st b j = none := by
  intro j hj
  induction j with
  | zero => obtain rfl : k = 0 := by omega
            exact h
  | succ j ih =>
    by_cases hk : k = j + 1
    · subst hk; exact h
    · have := ih (by omega)
      simp [st, this]
/-- Where reading stops, with what. -/
def Stops (b : ByteArray) (l : List ByteArray) (p e : Nat) : Prop :=
  ∃ k, st b k = some (p, l) ∧ ((p = b.size ∧ e = 0) ∨ (p < b.size ∧ (nxt (rest b p)).2 = e ∧ e ≠ 0))
theorem Stops.next {b : ByteArray} {l : List ByteArray} {p e k : Nat} (hk : st b k = some (p, l)) (h : (p = b.size ∧ e = 0) ∨ (p < b.size ∧ (nxt (rest b p)).2 = e ∧ e ≠ 0)) : st b (k + 1) = none := by
  simp only [st, hk]
  rw [if_neg]
  rintro ⟨h1, h2⟩
  rcases h with ⟨h3, _⟩ | ⟨_, h3, h4⟩ <;> omega
theorem Stops.one {b : ByteArray} {l l' : List ByteArray} {p p' e e' : Nat} (h : Stops b l p e) (h' : Stops b l' p' e') : l = l' ∧ p = p' ∧ e = e' := by
  obtain ⟨k, hk, hc⟩ := h
  obtain ⟨j, hj, hd⟩ := h'
  have n1 := Stops.next hk hc
  have n2 := Stops.next hj hd
  have : k = j := by
    rcases Nat.lt_trichotomy k j with h | h | h
    · have := st_none n1 j h; rw [hj] at this; cases this
    · exact h
    · have := st_none n2 k h; rw [hk] at this; cases this
  subst this
  rw [hk] at hj
  cases hj
  refine ⟨rfl, rfl, ?_⟩
  rcases hc with ⟨h3, h4⟩ | ⟨h3, h4, h5⟩ <;> rcases hd with ⟨h6, h7⟩ | ⟨h6, h7, h8⟩ <;> omega
theorem rest_size (b : ByteArray) (p : Nat) : (rest b p).size = b.size - p := by simp [rest, ByteArray.size_extract]
theorem nxt_size {b : ByteArray} (h : (nxt b).2 = 0) : 12 + (nxt b).1.size ≤ b.size := by
  unfold nxt at h ⊢
  split
  · rename_i h1; rw [if_pos h1] at h; cases h
  · rename_i h1; rw [if_neg h1] at h
    split
    · rename_i h2; rw [if_pos h2] at h; cases h
    · rename_i h2; rw [if_neg h2] at h
      split
      · rename_i h3; rw [if_pos h3] at h; cases h
      · rename_i h3; rw [if_neg h3] at h
        split
        · rename_i h4; rw [if_pos h4] at h; cases h
        · simp only [ByteArray.size_extract]; omega
theorem st_le {b : ByteArray} : ∀ {k p l}, st b k = some (p, l) → p ≤ b.size ∧ 12 * k ≤ p ∧ l.length = k := by
  intro k
  induction k with
  | zero => intro p l h; simp [st] at h; obtain ⟨rfl, rfl⟩ := h; simp
  | succ k ih =>
    intro p l h
    simp only [st] at h
    cases hs : st b k with
    | none => rw [hs] at h; cases h
    | some q =>
      obtain ⟨q, m⟩ := q
      rw [hs] at h
      dsimp only at h
      split at h
      · rename_i hc
        simp only [Option.some.injEq, Prod.mk.injEq] at h
        obtain ⟨rfl, rfl⟩ := h
        have h1 := ih hs
        have h2 := nxt_size hc.2
        rw [rest_size] at h2
        simp; omega
      · cases h
theorem st_step {b : ByteArray} {k p : Nat} {l : List ByteArray} (h : st b k = some (p, l)) (hp : p < b.size) (he : (nxt (rest b p)).2 = 0) : st b (k + 1) = some (p + 12 + (nxt (rest b p)).1.size, l ++ [(nxt (rest b p)).1]) := by
  simp only [st, h]
  rw [if_pos ⟨hp, he⟩]
/-- Four bytes and their number. -/
theorem four_num (s : ByteArray) (h : s.size = 4) : four (num s) = s := by
  have h1 := le_ofLe s.data.toList
  rw [len_list, h] at h1
  unfold four num
  rw [h1, mk_list]
theorem num_four (v : Nat) (h : v < 4294967296) : num (four v) = v := by
  unfold four num
  exact ofLe_le 4 v (by omega)
theorem four_eq (v : Nat) (s : ByteArray) (hv : v < 4294967296) (h : s.size = 4) : four v = s ↔ v = num s := by
  constructor
  · intro e; rw [← e, num_four v hv]
  · intro e; rw [e, four_num s h]
end Go.Proofs.Ytafialodjnjihaa
