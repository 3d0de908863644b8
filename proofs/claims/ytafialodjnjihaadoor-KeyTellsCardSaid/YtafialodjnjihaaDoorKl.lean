/- Bytes in order; numbers as eight bytes; texts with their ends marked: 0 as 0 255, then 0 1; what strings.ReplaceAll and strings.Index make of them. Plain, no program. No condition. -/
import Derived.Lib.Replace
import Derived.Lib.CountLaws
namespace Go.Proofs.YtafialodjnjihaaDoor.Kl
open Go.Lib
/-- bytes in order -/
def tlt : List UInt8 → List UInt8 → Bool
  | _, [] => false
  | [], _ :: _ => true
  | a :: x, b :: y => a < b || (a == b && tlt x y)

/-- parted at a byte: the first one has the lesser one there -/
def Ahead (l m : List UInt8) : Prop := ∃ p x y r s, l = p ++ x :: r ∧ m = p ++ y :: s ∧ x < y

theorem Ahead.append {l m : List UInt8} (h : Ahead l m) (r s : List UInt8) : Ahead (l ++ r) (m ++ s) := by
  obtain ⟨p, x, y, a, b, rfl, rfl, hx⟩ := h
  exact ⟨p, x, y, a ++ r, b ++ s, by simp, by simp, hx⟩
theorem Ahead.cons {l m : List UInt8} (h : Ahead l m) (c : UInt8) : Ahead (c :: l) (c :: m) := by
  obtain ⟨p, x, y, a, b, rfl, rfl, hx⟩ := h
  exact ⟨c :: p, x, y, a, b, rfl, rfl, hx⟩
theorem Ahead.pre {l m : List UInt8} (h : Ahead l m) (q : List UInt8) : Ahead (q ++ l) (q ++ m) := by
  induction q with
  | nil => exact h
  | cons c q ih => exact ih.cons c
theorem Ahead.head {x y : UInt8} (h : x < y) (r s : List UInt8) : Ahead (x :: r) (y :: s) := ⟨[], x, y, r, s, rfl, rfl, h⟩

theorem u8_irrefl (x : UInt8) : ¬ x < x := by
  intro h; exact absurd (UInt8.lt_iff_toNat_lt.1 h) (by omega)
theorem u8_asymm {x y : UInt8} (h : x < y) : ¬ y < x := by
  intro h2
  have a := UInt8.lt_iff_toNat_lt.1 h
  have b := UInt8.lt_iff_toNat_lt.1 h2
  omega
theorem u8_tri (x y : UInt8) : x < y ∨ x = y ∨ y < x := by
  rcases Nat.lt_trichotomy x.toNat y.toNat with h | h | h
  · exact .inl (UInt8.lt_iff_toNat_lt.2 h)
  · exact .inr (.inl (UInt8.toNat_inj.1 h))
  · exact .inr (.inr (UInt8.lt_iff_toNat_lt.2 h))

theorem Ahead.tlt {l m : List UInt8} (h : Ahead l m) : tlt l m = true := by
  obtain ⟨p, x, y, a, b, rfl, rfl, hx⟩ := h
  induction p with
  | nil => simp [Kl.tlt, hx]
  | cons c p ih => simp [Kl.tlt, ih]
theorem Ahead.not_tlt {l m : List UInt8} (h : Ahead l m) : Kl.tlt m l = false := by
  obtain ⟨p, x, y, a, b, rfl, rfl, hx⟩ := h
  induction p with
  | nil =>
    have h1 := u8_asymm hx
    have h2 : y ≠ x := by rintro rfl; exact u8_irrefl _ hx
    simp [Kl.tlt, h1, h2]
  | cons c p ih =>
    have := u8_irrefl c
    simp [Kl.tlt, ih, this]
theorem Ahead.ne {l m : List UInt8} (h : Ahead l m) : l ≠ m := by
  obtain ⟨p, x, y, a, b, rfl, rfl, hx⟩ := h
  intro e
  have := List.append_cancel_left e
  injection this with e1 _
  subst e1
  exact u8_irrefl _ hx
/-- neither begins the other one, whatever follows -/
theorem Ahead.apart {l m : List UInt8} (h : Ahead l m) (r s : List UInt8) : l ++ r ≠ m ++ s := (h.append r s).ne

theorem tlt_pre (l s : List UInt8) (hs : s ≠ []) : tlt l (l ++ s) = true := by
  induction l with
  | nil => cases s with
    | nil => exact absurd rfl hs
    | cons c s => rfl
  | cons c l ih => simp [tlt, ih]
theorem tlt_pre_not (l s : List UInt8) : tlt (l ++ s) l = false := by
  induction l with
  | nil => cases s <;> rfl
  | cons c l ih =>
    have := u8_irrefl c
    simp [tlt, ih, this]
theorem tlt_irrefl (l : List UInt8) : tlt l l = false := by
  have := tlt_pre_not l []
  simpa using this
theorem tlt_cases (l m : List UInt8) : Ahead l m ∨ Ahead m l ∨ l = m ∨ (∃ s, s ≠ [] ∧ m = l ++ s) ∨ (∃ s, s ≠ [] ∧ l = m ++ s) := by
  induction l generalizing m with
  | nil =>
    cases m with
    | nil => exact .inr (.inr (.inl rfl))
    | cons c m => exact .inr (.inr (.inr (.inl ⟨c :: m, by simp, rfl⟩)))
  | cons a l ih =>
    cases m with
    | nil => exact .inr (.inr (.inr (.inr ⟨a :: l, by simp, rfl⟩)))
    | cons b m =>
      rcases u8_tri a b with h | rfl | h
      · exact .inl (Ahead.head h _ _)
      · rcases ih m with h | h | rfl | ⟨s, hs, rfl⟩ | ⟨s, hs, rfl⟩
        · exact .inl (h.cons a)
        · exact .inr (.inl (h.cons a))
        · exact .inr (.inr (.inl rfl))
        · exact .inr (.inr (.inr (.inl ⟨s, hs, rfl⟩)))
        · exact .inr (.inr (.inr (.inr ⟨s, hs, rfl⟩)))
      · exact .inr (.inl (Ahead.head h _ _))
theorem tlt_tri (l m : List UInt8) : tlt l m = true ∨ l = m ∨ tlt m l = true := by
  rcases tlt_cases l m with h | h | h | ⟨s, hs, rfl⟩ | ⟨s, hs, rfl⟩
  · exact .inl h.tlt
  · exact .inr (.inr h.tlt)
  · exact .inr (.inl h)
  · exact .inl (tlt_pre _ _ hs)
  · exact .inr (.inr (tlt_pre _ _ hs))
theorem tlt_trans {l m n : List UInt8} (h : tlt l m = true) (k : tlt m n = true) : tlt l n = true := by
  induction l generalizing m n with
  | nil =>
    cases n with
    | nil => cases m <;> simp [tlt] at k
    | cons c n => rfl
  | cons a l ih =>
    cases m with
    | nil => simp [tlt] at h
    | cons b m =>
      cases n with
      | nil => simp [tlt] at k
      | cons c n =>
        simp only [tlt, Bool.or_eq_true, decide_eq_true_eq, Bool.and_eq_true, beq_iff_eq] at h k ⊢
        rcases h with h | ⟨rfl, h⟩ <;> rcases k with k | ⟨rfl, k⟩
        · left
          have a1 := UInt8.lt_iff_toNat_lt.1 h
          have a2 := UInt8.lt_iff_toNat_lt.1 k
          exact UInt8.lt_iff_toNat_lt.2 (by omega)
        · exact .inl h
        · exact .inl k
        · exact .inr ⟨rfl, ih h k⟩
theorem tlt_asymm {l m : List UInt8} (h : tlt l m = true) : tlt m l = false := by
  cases e : tlt m l with
  | false => rfl
  | true => have := tlt_trans h e; rw [tlt_irrefl] at this; cases this


/-! ## Numbers -/
def be' : Nat → Nat → List UInt8
  | 0, _ => []
  | n + 1, x => UInt8.ofNat (x / 256 ^ n) :: be' n (x % 256 ^ n)
theorem be'_len (n x : Nat) : (be' n x).length = n := by
  induction n generalizing x with
  | zero => rfl
  | succ n ih => simp [be', ih]
theorem be'_ahead : ∀ (n a b : Nat), a < b → b < 256 ^ n → Ahead (be' n a) (be' n b) := by
  intro n
  induction n with
  | zero => intro a b h h2; simp at h2; omega
  | succ n ih =>
    intro a b h h2
    have hq : 0 < 256 ^ n := Nat.pow_pos (by omega)
    rw [Nat.pow_succ, Nat.mul_comm] at h2
    have hb : b / 256 ^ n < 256 := Nat.div_lt_of_lt_mul (by rwa [Nat.mul_comm])
    have hle : a / 256 ^ n ≤ b / 256 ^ n := Nat.div_le_div_right (Nat.le_of_lt h)
    unfold be'
    rcases Nat.lt_or_eq_of_le hle with h3 | h3
    · refine Ahead.head (UInt8.lt_iff_toNat_lt.2 ?_) _ _
      rw [UInt8.toNat_ofNat', UInt8.toNat_ofNat', Nat.mod_eq_of_lt (show _ < 2 ^ 8 by omega), Nat.mod_eq_of_lt (show _ < 2 ^ 8 from hb)]
      exact h3
    · rw [h3]
      refine (ih _ _ ?_ (Nat.mod_lt _ hq)).cons _
      have e1 := Nat.div_add_mod a (256 ^ n)
      have e2 := Nat.div_add_mod b (256 ^ n)
      rw [h3] at e1
      omega
def num (l : List UInt8) : Nat := l.foldl (fun v c => v * 256 + c.toNat) 0
theorem num_from (l : List UInt8) (v : Nat) : l.foldl (fun v c => v * 256 + c.toNat) v = v * 256 ^ l.length + num l := by
  induction l generalizing v with
  | nil => simp [num]
  | cons a l ih =>
    unfold num
    simp only [List.foldl_cons, List.length_cons]
    rw [ih, ih (0 * 256 + a.toNat), Nat.pow_succ, Nat.add_mul, Nat.zero_mul, Nat.zero_add, Nat.mul_assoc, Nat.mul_comm 256, Nat.add_assoc]
theorem num_cons (a : UInt8) (l : List UInt8) : num (a :: l) = a.toNat * 256 ^ l.length + num l := by
  have := num_from l (0 * 256 + a.toNat)
  rw [Nat.zero_mul, Nat.zero_add] at this
  unfold num at this ⊢
  simp only [List.foldl_cons, Nat.zero_mul, Nat.zero_add]
  exact this
theorem num_snoc (l : List UInt8) (a : UInt8) : num (l ++ [a]) = num l * 256 + a.toNat := by simp [num]
theorem num_lt (l : List UInt8) : num l < 256 ^ l.length := by
  induction l with
  | nil => simp [num]
  | cons a l ih =>
    rw [num_cons, List.length_cons, Nat.pow_succ]
    have ha : a.toNat < 256 := a.toNat_lt
    have : a.toNat * 256 ^ l.length + 256 ^ l.length ≤ 256 ^ l.length * 256 := by
      rw [← Nat.succ_mul, Nat.mul_comm]
      exact Nat.mul_le_mul_left _ ha
    omega
theorem num_be' : ∀ (n x : Nat), x < 256 ^ n → num (be' n x) = x := by
  intro n
  induction n with
  | zero => intro x h; simp at h; subst h; rfl
  | succ n ih =>
    intro x h
    have hq : 0 < 256 ^ n := Nat.pow_pos (by omega)
    rw [Nat.pow_succ, Nat.mul_comm] at h
    have hb : x / 256 ^ n < 256 := Nat.div_lt_of_lt_mul (by rwa [Nat.mul_comm])
    unfold be'
    rw [num_cons, ih _ (Nat.mod_lt _ hq), be'_len]
    have e1 := Nat.div_add_mod x (256 ^ n)
    rw [Nat.mul_comm] at e1
    have : (UInt8.ofNat (x / 256 ^ n)).toNat = x / 256 ^ n := by simp; omega
    rw [this]; exact e1

/-! ## Texts -/
def esc : List UInt8 → List UInt8
  | [] => []
  | b :: l => if b = 0 then 0 :: 255 :: esc l else b :: esc l
theorem esc_zero (l : List UInt8) : esc (0 :: l) = 0 :: 255 :: esc l := by simp [esc]
theorem esc_ne {b : UInt8} (h : b ≠ 0) (l : List UInt8) : esc (b :: l) = b :: esc l := by simp [esc, h]
theorem esc_app (l m : List UInt8) : esc (l ++ m) = esc l ++ esc m := by
  induction l with
  | nil => rfl
  | cons b l ih =>
    by_cases h : b = 0
    · subst h; rw [List.cons_append, esc_zero, esc_zero, ih]; rfl
    · rw [List.cons_append, esc_ne h, esc_ne h, ih]; rfl
theorem esc_len (l : List UInt8) : l.length ≤ (esc l).length ∧ (esc l).length ≤ 2 * l.length := by
  induction l with
  | nil => exact ⟨Nat.le_refl _, Nat.le_refl _⟩
  | cons b l ih =>
    by_cases h : b = 0
    · subst h; rw [esc_zero]; simp only [List.length_cons]; omega
    · rw [esc_ne h]; simp only [List.length_cons]; omega
def repl (old new s : List UInt8) : List UInt8 := replaceK old new (count s old) s
section
variable {old new s l : List UInt8} {b : UInt8} {i : Nat}
theorem repl_miss (h : index s old = -1) : repl old new s = s := by unfold repl; rw [count_miss h]; rfl
theorem repl_hit (hold : old ≠ []) (h : index s old = i) : repl old new s = s.take i ++ new ++ repl old new (s.drop (i + old.length)) := by
  unfold repl; rw [count_hit hold h, Nat.add_comm 1, replaceK_hit _ _ _ _ i h]
theorem index_cons_hit (h : old.isPrefixOf (b :: l) = true) : index (b :: l) old = 0 := by unfold index; rw [if_pos h]
theorem index_cons_miss (h : old.isPrefixOf (b :: l) = false) : index (b :: l) old = if index l old == -1 then -1 else index l old + 1 := by
  conv => lhs; unfold index
  rw [h]; rfl
theorem repl_nil (hold : old ≠ []) : repl old new [] = [] := by
  cases old with
  | nil => exact absurd rfl hold
  | cons a t => exact repl_miss rfl
theorem repl_cons_hit (hold : old ≠ []) (h : old.isPrefixOf (b :: l) = true) : repl old new (b :: l) = new ++ repl old new ((b :: l).drop old.length) := by
  have := repl_hit (new := new) hold (i := 0) (index_cons_hit h)
  rw [this]; simp
theorem repl_cons_miss (hold : old ≠ []) (h : old.isPrefixOf (b :: l) = false) : repl old new (b :: l) = b :: repl old new l := by
  have h1 := index_cons_miss h
  by_cases hm : index l old = -1
  · rw [hm] at h1
    rw [repl_miss hm, repl_miss (by simpa using h1)]
  · have hge := index_ge l old
    obtain ⟨j, hj⟩ : ∃ j : Nat, index l old = j := ⟨(index l old).toNat, by omega⟩
    have hb : (index l old == -1) = false := by rw [beq_eq_false_iff_ne]; exact hm
    rw [hb, hj] at h1
    have h2 : index (b :: l) old = ((j + 1 : Nat) : Int) := by rw [h1]; simp
    rw [repl_hit hold h2, repl_hit hold hj, Nat.add_right_comm j 1]
    simp
theorem replaceAll_repl (h : old ≠ new) (s : List UInt8) : replaceAll s old new = repl old new s := by
  unfold replaceAll replace repl replaceNum
  have : (old == new) = false := by rw [beq_eq_false_iff_ne]; exact h
  rw [this, if_pos (Or.inl (by decide))]; rfl
end
theorem replaceAll_esc (l : List UInt8) : replaceAll l [0] [0, 255] = esc l := by
  rw [replaceAll_repl (by decide)]
  induction l with
  | nil => exact repl_nil (by decide)
  | cons b l ih =>
    by_cases h : b = 0
    · subst h
      rw [repl_cons_hit (by decide) (by simp [List.isPrefixOf]), esc_zero]
      simp [ih]
    · rw [repl_cons_miss (by decide) (by simp [List.isPrefixOf]; exact fun e => h e.symm), esc_ne h, ih]
theorem replaceAll_back (l : List UInt8) : replaceAll (esc l) [0, 255] [0] = l := by
  rw [replaceAll_repl (by decide)]
  induction l with
  | nil => exact repl_nil (by decide)
  | cons b l ih =>
    by_cases h : b = 0
    · subst h
      rw [esc_zero, repl_cons_hit (by decide) (by simp [List.isPrefixOf])]
      simp [ih]
    · rw [esc_ne h, repl_cons_miss (by decide) (by simp [List.isPrefixOf]; intro e; exact absurd e.symm h), ih]
theorem index_end (l r : List UInt8) : index (esc l ++ 0 :: 1 :: r) [0, 1] = ((esc l).length : Int) := by
  induction l with
  | nil => exact index_cons_hit (by simp [List.isPrefixOf])
  | cons b l ih =>
    by_cases h : b = 0
    · subst h
      rw [esc_zero]
      have h1 : index (255 :: (esc l ++ 0 :: 1 :: r)) [0, 1] = (((esc l).length + 1 : Nat) : Int) := by
        rw [index_cons_miss (by simp [List.isPrefixOf]), ih]
        have : (((esc l).length : Int) == -1) = false := by rw [beq_eq_false_iff_ne]; omega
        rw [this]; simp
      rw [List.cons_append, List.cons_append, index_cons_miss (by simp [List.isPrefixOf]), h1]
      have : ((((esc l).length + 1 : Nat) : Int) == -1) = false := by rw [beq_eq_false_iff_ne]; omega
      rw [this]; simp
    · rw [esc_ne h, List.cons_append, index_cons_miss (by simp [List.isPrefixOf]; intro e; exact absurd e.symm h), ih]
      have : (((esc l).length : Int) == -1) = false := by rw [beq_eq_false_iff_ne]; omega
      rw [this]; simp
theorem esc_ahead : ∀ (s t r r' : List UInt8), tlt s t = true → Ahead (esc s ++ 0 :: 1 :: r) (esc t ++ 0 :: 1 :: r') := by
  intro s
  induction s with
  | nil =>
    intro t r r' h
    cases t with
    | nil => simp [tlt] at h
    | cons b t =>
      by_cases hb : b = 0
      · subst hb; rw [esc_zero]
        exact Ahead.cons (Ahead.head (by decide) _ _) 0
      · rw [esc_ne hb]
        refine Ahead.head (UInt8.lt_iff_toNat_lt.2 ?_) _ _
        have : b.toNat ≠ 0 := fun e => hb (UInt8.toNat_inj.1 e)
        show 0 < b.toNat
        omega
  | cons a s ih =>
    intro t r r' h
    cases t with
    | nil => simp [tlt] at h
    | cons b t =>
      simp only [tlt, Bool.or_eq_true, decide_eq_true_eq, Bool.and_eq_true, beq_iff_eq] at h
      rcases h with h | ⟨rfl, h⟩
      · have hb : b ≠ 0 := by
          rintro rfl
          have := UInt8.lt_iff_toNat_lt.1 h
          have e : (0 : UInt8).toNat = 0 := rfl
          omega
        rw [esc_ne hb]
        by_cases ha : a = 0
        · subst ha; rw [esc_zero]; exact Ahead.head h _ _
        · rw [esc_ne ha]; exact Ahead.head h _ _
      · by_cases ha : a = 0
        · subst ha; rw [esc_zero, esc_zero]
          exact ((ih t r r' h).cons 255).cons 0
        · rw [esc_ne ha, esc_ne ha]
          exact (ih t r r' h).cons a
theorem compare_tlt : ∀ (a b : List UInt8), compareBytes a b < 0 ↔ tlt a b = true := by
  intro a
  induction a with
  | nil => intro b; cases b <;> simp [compareBytes, tlt]
  | cons x a ih =>
    intro b
    cases b with
    | nil => simp [compareBytes, tlt]
    | cons y b =>
      unfold compareBytes tlt
      by_cases h : x < y
      · rw [if_pos h]; simp [h]
      · by_cases h2 : y < x
        · have : x ≠ y := by rintro rfl; exact h h2
          rw [if_neg h, if_pos h2]; simp [h, this]
        · have : x = y := by
            rcases u8_tri x y with h3 | h3 | h3
            · exact absurd h3 h
            · exact h3
            · exact absurd h3 h2
          subst this
          rw [if_neg h, if_neg h2, ih]; simp [h]
theorem esc_inj {s t : List UInt8} (h : esc s = esc t) : s = t := by rw [← replaceAll_back s, h, replaceAll_back]
end Go.Proofs.YtafialodjnjihaaDoor.Kl
