/- What is above all texts that begin so, plain; the order of texts as the program has it. No condition. -/
import Derived.Test.YtafialodjnjihaaDoorAfter
import Derived.Test.YtafialodjnjihaaDoorKl
namespace Go.Proofs.YtafialodjnjihaaDoor
open Go Go.RowKit
set_option linter.unusedVariables false

theorem less_tlt : ∀ (x y : List UInt8), Op.bytesLess x y = Kl.tlt x y := by
  intro x
  induction x with
  | nil => intro y; cases y <;> rfl
  | cons a x ih =>
    intro y
    cases y with
    | nil => rfl
    | cons b y => simp only [Op.bytesLess, Kl.tlt, ih]
theorem tlist (t : ByteArray) : t.toList = t.data.toList := Go.ByteArray.toList_eq t
theorem byte_up {c : UInt8} (h : c ≠ 255) : c < c + 1 := by
  have := byte_succ c h
  exact UInt8.lt_iff_toNat_lt.2 (by omega)
theorem up_le {c d : UInt8} (h : c ≠ 255) (hd : d < c + 1) : d < c ∨ d = c := by
  have e := byte_succ c h
  have h1 := UInt8.lt_iff_toNat_lt.1 hd
  rcases Nat.lt_trichotomy d.toNat c.toNat with h2 | h2 | h2
  · exact .inl (UInt8.lt_iff_toNat_lt.2 h2)
  · exact .inr (UInt8.toNat_inj.1 h2)
  · omega
/-- A text, parted where the bytes 255 at its end begin. -/
structure Parted (s a : List UInt8) : Prop where
  is : ∃ p c k, s = p ++ c :: List.replicate k 255 ∧ c ≠ 255 ∧ a = p ++ [c + 1]
theorem Parted.above {s a : List UInt8} (h : Parted s a) (x : List UInt8) : Kl.tlt (s ++ x) a = true := by
  obtain ⟨p, c, k, rfl, hc, rfl⟩ := h.is
  have h1 : Kl.Ahead ((p ++ c :: List.replicate k 255) ++ x) (p ++ [c + 1]) := ⟨p, c, c + 1, List.replicate k 255 ++ x, [], by simp, rfl, byte_up hc⟩
  exact h1.tlt
theorem tops_pre : ∀ (k : Nat) (t : List UInt8), Kl.tlt (List.replicate k 255) t = true → List.replicate k 255 <+: t := by
  intro k
  induction k with
  | zero => intro t _; simp
  | succ k ih =>
    intro t h
    cases t with
    | nil => simp [List.replicate_succ, Kl.tlt] at h
    | cons e t =>
      simp only [List.replicate_succ, Kl.tlt, Bool.or_eq_true, decide_eq_true_eq, Bool.and_eq_true, beq_iff_eq] at h
      rcases h with h | ⟨rfl, h⟩
      · have h1 := UInt8.lt_iff_toNat_lt.1 h
        have h2 := e.toNat_lt
        have h3 : (255 : UInt8).toNat = 255 := rfl
        omega
      · rw [List.replicate_succ, List.cons_prefix_cons]
        exact ⟨rfl, ih t h⟩
theorem parted_least : ∀ (p : List UInt8) (c : UInt8) (k : Nat) (t : List UInt8), c ≠ 255 → Kl.tlt (p ++ c :: List.replicate k 255) t = true → Kl.tlt t (p ++ [c + 1]) = true → (p ++ c :: List.replicate k 255) <+: t := by
  intro p
  induction p with
  | nil =>
    intro c k t hc h1 h2
    cases t with
    | nil => simp [Kl.tlt] at h1
    | cons d t =>
      simp only [List.nil_append, Kl.tlt, Bool.or_eq_true, decide_eq_true_eq, Bool.and_eq_true, beq_iff_eq] at h1 h2
      have h3 : d < c ∨ d = c := by
        rcases h2 with h2 | ⟨_, h2⟩
        · exact up_le hc h2
        · cases t <;> simp at h2
      rcases h1 with h1 | ⟨rfl, h1⟩
      · rcases h3 with h3 | rfl
        · exact absurd h3 (Kl.u8_asymm h1)
        · exact absurd h1 (Kl.u8_irrefl _)
      · rw [List.nil_append, List.cons_prefix_cons]
        exact ⟨rfl, tops_pre k t h1⟩
  | cons q p ih =>
    intro c k t hc h1 h2
    cases t with
    | nil => simp [Kl.tlt] at h1
    | cons d t =>
      simp only [List.cons_append, Kl.tlt, Bool.or_eq_true, decide_eq_true_eq, Bool.and_eq_true, beq_iff_eq] at h1 h2
      rcases h1 with h1 | ⟨rfl, h1⟩
      · rcases h2 with h2 | ⟨rfl, _⟩
        · exact absurd h2 (Kl.u8_asymm h1)
        · exact absurd h1 (Kl.u8_irrefl _)
      · rcases h2 with h2 | ⟨_, h2⟩
        · exact absurd h2 (Kl.u8_irrefl _)
        · rw [List.cons_append, List.cons_prefix_cons]
          exact ⟨rfl, ih c k t hc h1 h2⟩
theorem Parted.least {s a t : List UInt8} (h : Parted s a) (h1 : Kl.tlt s t = true) (h2 : Kl.tlt t a = true) : s <+: t := by
  obtain ⟨p, c, k, rfl, hc, rfl⟩ := h.is
  exact parted_least p c k t hc h1 h2
theorem trim_parted {s : ByteArray} {m : Nat} (h : Trim s (m + 1)) : Parted s.data.toList (afterT s (m + 1)).data.toList := by
  have hm : m < s.size := h.le
  have hl : s.data.toList.length = s.size := rfl
  refine ⟨s.data.toList.take m, s.data.toList.getD m 0, s.size - (m + 1), ?_, ?_, ?_⟩
  · apply List.ext_getElem
    · simp [hl]; omega
    · intro i h1 h2
      rcases Nat.lt_trichotomy i m with h3 | h3 | h3
      · rw [List.getElem_append_left (by simp [hl]; omega)]; simp
      · subst h3
        rw [List.getElem_append_right (by simp [hl]; omega)]
        simp [hl, Nat.min_eq_left (Nat.le_of_lt hm), hm]
      · have hi : i < s.size := by rw [hl] at h1; exact h1
        have e := h.all i hi (by omega)
        rw [List.getElem_append_right (by simp [hl]; omega)]
        have e2 : s.data.toList[i] = s[i] := rfl
        rw [e2, e]
        rw [List.getElem_cons]
        rw [dif_neg (by simp [hl]; omega)]
        simp
  · have e := h.last m hm rfl
    have e2 : s.data.toList.getD m 0 = s[m] := by simp [hm]; rfl
    rw [e2]; exact e
  · simp [afterT]
theorem trim_zero {s : ByteArray} (h : Trim s 0) (i : Nat) (hi : i < s.size) : s[i] = 255 := h.all i hi (Nat.zero_le _)
end Go.Proofs.YtafialodjnjihaaDoor
