/- The key of a row, plain: it rises as the row does, it begins another one just if the row does, it tells the row; how it is read. No condition. -/
import Derived.Test.YtafialodjnjihaaDoorKl
import Derived.Test.YtafialodjnjihaaDoorOrder
import Derived.Test.YtafialodjnjihaaDoorHigh
namespace Go.Proofs.YtafialodjnjihaaDoor
open Go Go.RowKit
set_option linter.unusedVariables false

theorem u8_of_mod {a b : Nat} (h : a % 256 = b % 256) : UInt8.ofNat a = UInt8.ofNat b := UInt8.toNat_inj.1 (by simpa using h)
theorem be_be' (x : Nat) (h : x < 18446744073709551616) : be 8 x = Kl.be' 8 x := by
  simp only [be, Kl.be', List.range, List.range.loop, List.map_cons, List.map_nil]
  refine congr (congrArg _ (u8_of_mod ?_)) (congr (congrArg _ (u8_of_mod ?_)) (congr (congrArg _ (u8_of_mod ?_)) (congr (congrArg _ (u8_of_mod ?_)) (congr (congrArg _ (u8_of_mod ?_)) (congr (congrArg _ (u8_of_mod ?_)) (congr (congrArg _ (u8_of_mod ?_)) (congr (congrArg _ (u8_of_mod ?_)) rfl)))))))
  all_goals (simp only [Nat.reducePow, Nat.reduceMul, Nat.reduceSub]; try omega)
/-- The number that an int64 is told as. -/
def flip (i : Int) : Nat := (i + 9223372036854775808).toNat
/-- What stands behind a value's first byte. -/
def tailV (x : Val) : List UInt8 :=
  if x.kind = 1 then [UInt8.ofNat x.int.toNat]
  else if x.kind = 2 then be 8 (flip x.int)
  else if x.kind = 3 then be 8 (Rl.key x.real)
  else if x.kind = 4 ∨ x.kind = 5 then Kl.esc x.text.data.toList ++ [0, 1]
  else []
def keyV (x : Val) : List UInt8 := UInt8.ofNat (x.kind + 1) :: tailV x
def keyL (l : List Val) : List UInt8 := l.flatMap keyV
theorem keyL_nil : keyL [] = [] := rfl
theorem keyL_cons (x : Val) (l : List Val) : keyL (x :: l) = keyV x ++ keyL l := rfl
theorem keyL_app (l m : List Val) : keyL (l ++ m) = keyL l ++ keyL m := by simp [keyL]
theorem keyL_ne {l : List Val} (h : l ≠ []) : keyL l ≠ [] := by
  cases l with
  | nil => exact absurd rfl h
  | cons x l => rw [keyL_cons]; simp [keyV]
section
variable {x y : Val}
theorem may_kind (h : x.may = true) : x.kind ≤ 5 := by
  unfold Val.may at h
  split at h <;> first | omega | skip
  split at h <;> first | omega | skip
  split at h <;> first | omega | skip
  split at h <;> first | omega | skip
  split at h <;> first | omega | skip
  split at h <;> first | omega | skip
  cases h
theorem may0_of (k : x.kind = 0) (h : x.may = true) : x = ⟨0, 0, 0, x.text⟩ ∧ x.text.size = 0 := by
  unfold Val.may at h; rw [if_pos k] at h; simp at h
  obtain ⟨k', i, r, t⟩ := x; dsimp only at *; exact ⟨by rw [k, h.1, h.2.1], by rw [h.2.2]; rfl⟩
theorem may1_of (k : x.kind = 1) (h : x.may = true) : (x.int = 0 ∨ x.int = 1) ∧ x.real = 0 ∧ x.text.size = 0 := by
  unfold Val.may at h; rw [if_neg (by omega), if_pos k] at h; simpa using h
theorem may2_of (k : x.kind = 2) (h : x.may = true) : x.real = 0 ∧ x.text.size = 0 := by
  unfold Val.may at h; rw [if_neg (by omega), if_neg (by omega), if_pos k] at h; simpa using h
theorem may3_of (k : x.kind = 3) (h : x.may = true) : x.int = 0 ∧ Rl.canon x.real = x.real ∧ x.text.size = 0 := by
  unfold Val.may at h; rw [if_neg (by omega), if_neg (by omega), if_neg (by omega), if_pos k] at h; simpa using h
theorem may4_of (k : x.kind = 4) (h : x.may = true) : x.int = 0 ∧ x.real = 0 ∧ x.text.size ≤ 100 := by
  unfold Val.may at h; rw [if_neg (by omega), if_neg (by omega), if_neg (by omega), if_neg (by omega), if_pos k] at h; simpa using h
theorem may5_of (k : x.kind = 5) (h : x.may = true) : x.int = 0 ∧ x.real = 0 ∧ valid x.text = true ∧ x.text.size ≤ 100 := by
  unfold Val.may at h; rw [if_neg (by omega), if_neg (by omega), if_neg (by omega), if_neg (by omega), if_neg (by omega), if_pos k] at h; simpa using h
theorem may45_of (k : x.kind = 4 ∨ x.kind = 5) (h : x.may = true) : x.int = 0 ∧ x.real = 0 ∧ x.text.size ≤ 100 := by
  rcases k with k | k
  · exact may4_of k h
  · obtain ⟨a, b, _, c⟩ := may5_of k h; exact ⟨a, b, c⟩
end
theorem text_size0 {t t' : ByteArray} (h : t.size = 0) (h' : t'.size = 0) : t = t' := by
  have e := List.eq_nil_of_length_eq_zero (show t.data.toList.length = 0 from h)
  have e' := List.eq_nil_of_length_eq_zero (show t'.data.toList.length = 0 from h')
  exact ByteArray.ext (Array.toList_inj.1 (e.trans e'.symm))
theorem flip_lt {i : Int} (h : -9223372036854775808 ≤ i ∧ i < 9223372036854775808) : flip i < 18446744073709551616 := by unfold flip; omega
theorem be_ahead {a b : Nat} (h : a < b) (hb : b < 18446744073709551616) : Kl.Ahead (be 8 a) (be 8 b) := by
  rw [be_be' a (by omega), be_be' b hb]; exact Kl.be'_ahead 8 a b h (by simpa using hb)
/-- Of two values that may be: what is ahead has a key that is ahead, whatever follows. -/
theorem keyV_ahead {x y : Val} (hx : x.may = true) (hy : y.may = true) (ox : x.Ok) (oy : y.Ok) (h : lessV x y = true) (r r' : List UInt8) : Kl.Ahead (keyV x ++ r) (keyV y ++ r') := by
  have h1 := (cmpV_lt x y).1 (by simpa [lessV] using h)
  have kx := may_kind hx
  have ky := may_kind hy
  unfold keyV
  rcases h1 with h1 | ⟨k, h1⟩
  · exact Kl.Ahead.head (UInt8.lt_iff_toNat_lt.2 (by simp; omega)) _ _
  · rw [k, List.cons_append, List.cons_append]
    refine Kl.Ahead.cons ?_ _
    unfold tailV
    rw [k]
    have K : x.kind = 0 ∨ x.kind = 1 ∨ x.kind = 2 ∨ x.kind = 3 ∨ (x.kind = 4 ∨ x.kind = 5) := by omega
    rcases K with K | K | K | K | K
    · exfalso
      have ax := may0_of K hx
      have ay := may0_of (k ▸ K) hy
      have e : x = y := by rw [ax.1, ay.1, text_size0 ax.2 ay.2]
      subst e
      have := (cmpV_zero x x).2 ⟨rfl, rfl, rfl, cmpB_self _⟩
      have h2 := (cmpV_lt x x).2 (.inr ⟨rfl, h1⟩)
      omega
    · have ax := may1_of K hx
      have ay := may1_of (k ▸ K) hy
      have hi : x.int = 0 ∧ y.int = 1 := by
        rcases h1 with h1 | ⟨_, h1⟩
        · omega
        · rw [ax.2.1, ay.2.1] at h1
          rcases h1 with h1 | ⟨_, h1⟩
          · omega
          · rw [text_size0 ax.2.2 ay.2.2] at h1
            have := cmpB_self y.text.data.toList
            unfold cmpT at h1; omega
      rw [if_pos (k ▸ K), if_pos (k ▸ K), hi.1, hi.2]
      exact Kl.Ahead.head (by decide) _ _
    · have ax := may2_of K hx
      have ay := may2_of (k ▸ K) hy
      have hi : x.int < y.int := by
        rcases h1 with h1 | ⟨_, h1⟩
        · exact h1
        · rw [ax.1, ay.1] at h1
          rcases h1 with h1 | ⟨_, h1⟩
          · omega
          · rw [text_size0 ax.2 ay.2] at h1
            have := cmpB_self y.text.data.toList
            unfold cmpT at h1; omega
      have K' : y.kind = 2 := k ▸ K
      rw [if_neg (by omega), if_pos K', if_neg (by omega), if_pos K']
      have o1 := ox.int
      have o2 := oy.int
      exact (be_ahead (by unfold flip; omega) (flip_lt o2)).append _ _
    · have ax := may3_of K hx
      have ay := may3_of (k ▸ K) hy
      have hi : Rl.key x.real < Rl.key y.real := by
        rcases h1 with h1 | ⟨_, h1⟩
        · omega
        · rcases h1 with h1 | ⟨_, h1⟩
          · exact h1
          · rw [text_size0 ax.2.2 ay.2.2] at h1
            have := cmpB_self y.text.data.toList
            unfold cmpT at h1; omega
      have K' : y.kind = 3 := k ▸ K
      rw [if_neg (by omega), if_neg (by omega), if_pos K', if_neg (by omega), if_neg (by omega), if_pos K']
      exact (be_ahead hi (Rl.keyOf_lt (Rl.canon_lt oy.real))).append _ _
    · have ax := may45_of K hx
      have ay := may45_of (k ▸ K) hy
      have hi : cmpT x.text y.text < 0 := by
        rcases h1 with h1 | ⟨_, h1⟩
        · omega
        · rw [ax.2.1, ay.2.1] at h1
          rcases h1 with h1 | ⟨_, h1⟩
          · omega
          · exact h1
      have K' : y.kind = 4 ∨ y.kind = 5 := k ▸ K
      rw [if_neg (by omega), if_neg (by omega), if_neg (by omega), if_pos K', if_neg (by omega), if_neg (by omega), if_neg (by omega), if_pos K']
      rw [List.append_assoc, List.append_assoc]
      exact Kl.esc_ahead _ _ _ _ ((Kl.compare_tlt _ _).1 hi)
theorem ok_real {x : Val} (h : x.Ok) : x.real < 18446744073709551616 := h.real
theorem keyV_parts {x y : Val} (hx : x.may = true) (hy : y.may = true) (ox : x.Ok) (oy : y.Ok) : x = y ∨ (lessV x y = true ∧ lessV y x = false ∧ eqV x y = false ∧ ∀ r r', Kl.Ahead (keyV x ++ r) (keyV y ++ r')) ∨ (lessV x y = false ∧ lessV y x = true ∧ eqV x y = false ∧ ∀ r r', Kl.Ahead (keyV y ++ r) (keyV x ++ r')) := by
  rcases lessV_one hx hy ox.real oy.real with ⟨a, b, c⟩ | ⟨a, b, c⟩ | ⟨a, b, c⟩
  · exact .inr (.inl ⟨a, b, c, keyV_ahead hx hy ox oy a⟩)
  · exact .inr (.inr ⟨a, b, c, keyV_ahead hy hx oy ox b⟩)
  · exact .inl ((eqV_iff x y).1 c)
/-- A row that has a key. -/
structure Good (l : List Val) : Prop where
  row : l = [] ∨ rowMay l = true
  ok : ∀ x ∈ l, x.Ok
def Goods (l : List Val) : Prop := ∀ x ∈ l, x.may = true ∧ x.Ok
theorem Good.each {l : List Val} (h : Good l) : Goods l := by
  intro x hx
  refine ⟨?_, h.ok x hx⟩
  rcases h.row with h | h
  · subst h; cases hx
  · unfold rowMay at h
    simp only [Bool.and_eq_true] at h
    exact List.all_eq_true.1 h.2 x hx
theorem Good.len {l : List Val} (h : Good l) : l.length ≤ 8 := by
  rcases h.row with h | h
  · subst h; simp
  · unfold rowMay at h; simp at h; exact h.1.2
theorem goods_tail {x : Val} {l : List Val} (h : Goods (x :: l)) : Goods l := fun y hy => h y (List.mem_cons_of_mem _ hy)
/-- Keys are in the order of their rows. -/
theorem keyL_order : ∀ (l m : List Val), Goods l → Goods m → Kl.tlt (keyL l) (keyL m) = rowLess l m ∧ (keyL l = keyL m ↔ rowSame l m = true) := by
  intro l
  induction l with
  | nil =>
    intro m _ _
    cases m with
    | nil => exact ⟨rfl, by simp [rowSame]⟩
    | cons y m => exact ⟨rfl, by rw [keyL_cons]; simp [rowSame, keyV, keyL_nil]⟩
  | cons x l ih =>
    intro m hl hm
    cases m with
    | nil => exact ⟨rfl, by rw [keyL_cons]; simp [rowSame, keyV, keyL_nil]⟩
    | cons y m =>
      have hx := hl x List.mem_cons_self
      have hy := hm y List.mem_cons_self
      have h2 := ih m (goods_tail hl) (goods_tail hm)
      rw [keyL_cons, keyL_cons]
      unfold rowLess rowSame
      rcases keyV_parts hx.1 hy.1 hx.2 hy.2 with rfl | ⟨a, b, c, d⟩ | ⟨a, b, c, d⟩
      · rw [(eqV_iff x x).2 rfl, if_pos rfl, Bool.true_and]
        refine ⟨?_, by rw [← h2.2]; exact ⟨fun h => List.append_cancel_left h, fun h => by rw [h]⟩⟩
        rw [← h2.1]
        generalize keyV x = p
        induction p with
        | nil => rfl
        | cons a p ihp =>
          have hu := Kl.u8_irrefl a
          simp [Kl.tlt, hu, ihp]
      · rw [c, a, Bool.false_and]
        exact ⟨(d _ _).tlt, by have := (d (keyL l) (keyL m)).ne; simp [this]⟩
      · rw [c, a, Bool.false_and]
        exact ⟨(d _ _).not_tlt, by have := ((d (keyL m) (keyL l)).ne).symm; simp [this]⟩
theorem rowSame_iff : ∀ (l m : List Val), rowSame l m = true ↔ l = m := by
  intro l
  induction l with
  | nil => intro m; cases m <;> simp [rowSame]
  | cons x l ih =>
    intro m
    cases m with
    | nil => simp [rowSame]
    | cons y m => unfold rowSame; rw [Bool.and_eq_true, eqV_iff, ih]; simp
theorem keyL_inj {l m : List Val} (hl : Goods l) (hm : Goods m) (h : keyL l = keyL m) : l = m := (rowSame_iff l m).1 ((keyL_order l m hl hm).2.1 h)
/-- A key begins another one just if its row does. -/
theorem keyL_begins : ∀ (l m : List Val), Goods l → Goods m → (keyL l <+: keyL m ↔ l <+: m) := by
  intro l
  induction l with
  | nil => intro m _ _; simp [keyL_nil]
  | cons x l ih =>
    intro m hl hm
    cases m with
    | nil => rw [keyL_cons, keyL_nil]; simp [keyV]
    | cons y m =>
      have hx := hl x List.mem_cons_self
      have hy := hm y List.mem_cons_self
      have h2 := ih m (goods_tail hl) (goods_tail hm)
      rw [keyL_cons, keyL_cons]
      rcases keyV_parts hx.1 hy.1 hx.2 hy.2 with rfl | ⟨a, b, c, d⟩ | ⟨a, b, c, d⟩
      · rw [List.prefix_append_right_inj, h2, List.cons_prefix_cons]; simp
      · have hne : x ≠ y := fun e => by rw [(eqV_iff x y).2 e] at c; cases c
        constructor
        · rintro ⟨t, ht⟩
          rw [List.append_assoc] at ht
          exact absurd ht ((d _ _).ne)
        · intro h; rw [List.cons_prefix_cons] at h; exact absurd h.1 hne
      · have hne : x ≠ y := fun e => by rw [(eqV_iff x y).2 e] at c; cases c
        constructor
        · rintro ⟨t, ht⟩
          rw [List.append_assoc] at ht
          exact absurd ht.symm ((d _ _).ne)
        · intro h; rw [List.cons_prefix_cons] at h; exact absurd h.1 hne

/-! ## How a key is read -/
/-- What was read so far, of a key that some row has. -/
def Reads (s rest : List UInt8) (bad : Bool) (l : List Val) : Prop := ∀ m, Good m → keyL m = s → bad = false ∧ ∃ m2, m = l ++ m2 ∧ rest = keyL m2
theorem Reads.start (s : List UInt8) : Reads s s false [] := fun m _ h => ⟨rfl, m, rfl, h.symm⟩
/-- All is read. -/
theorem Reads.all {s : List UInt8} {bad : Bool} {l : List Val} (h : Reads s [] bad l) (m : List Val) (hm : Good m) (hs : keyL m = s) : bad = false ∧ m = l := by
  obtain ⟨hb, m2, rfl, h2⟩ := h m hm hs
  refine ⟨hb, ?_⟩
  by_cases h0 : m2 = []
  · subst h0; simp
  · exact absurd h2.symm (keyL_ne h0)
theorem Reads.bad {s rest : List UInt8} {l : List Val} (h : Reads s rest true l) (m : List Val) (hm : Good m) (hs : keyL m = s) : False := by
  have := (h m hm hs).1; cases this
theorem Reads.long {s rest : List UInt8} {bad : Bool} {l : List Val} (h : Reads s rest bad l) (hl : 8 < l.length) (m : List Val) (hm : Good m) (hs : keyL m = s) : False := by
  obtain ⟨_, m2, rfl, _⟩ := h m hm hs
  have := hm.len
  simp at this; omega
/-- The next value: its parts. -/
theorem Reads.step {s r rest' : List UInt8} {c : UInt8} {bad' : Bool} {l : List Val} {v : Val} (h : Reads s (c :: r) false l)
    (hv : ∀ x r2, x.may = true → x.Ok → c = UInt8.ofNat (x.kind + 1) → r = tailV x ++ r2 → bad' = false ∧ x = v ∧ rest' = r2) : Reads s rest' bad' (l ++ [v]) := by
  intro m hm hs
  obtain ⟨_, m2, rfl, h2⟩ := h m hm hs
  cases m2 with
  | nil => cases h2
  | cons x m3 =>
    rw [keyL_cons] at h2
    unfold keyV at h2
    rw [List.cons_append] at h2
    injection h2 with h3 h4
    have hg := hm.each x (by simp)
    obtain ⟨hb, rfl, rfl⟩ := hv x (keyL m3) hg.1 hg.2 h3 h4
    exact ⟨hb, m3, by simp, rfl⟩
theorem kind_of {c : UInt8} {x : Val} (h : x.may = true) (hc : c = UInt8.ofNat (x.kind + 1)) : x.kind + 1 = c.toNat := by
  have := may_kind h
  rw [hc]; simp; omega
section
variable {s r : List UInt8} {l : List Val} {c : UInt8}
def nul (k : Nat) : Val := ⟨k, 0, 0, ⟨#[]⟩⟩
theorem reads_null (h : Reads s (1 :: r) false l) : Reads s r false (l ++ [nul 0]) :=
  h.step fun x r2 hm ho hc hr => by
    have k := kind_of hm hc
    have K : x.kind = 0 := by simpa using k
    have a := may0_of K hm
    refine ⟨rfl, ?_, ?_⟩
    · rw [a.1]; unfold nul; rw [text_size0 a.2 (show (⟨#[]⟩ : ByteArray).size = 0 from rfl)]
    · unfold tailV at hr
      rw [if_neg (by omega), if_neg (by omega), if_neg (by omega), if_neg (by omega)] at hr
      exact hr
theorem reads_other (h : Reads s (c :: r) false l) (hc : c.toNat = 0 ∨ 7 ≤ c.toNat) (rest' : List UInt8) (bad' : Bool) (v : Val) : Reads s rest' bad' (l ++ [v]) :=
  h.step fun x r2 hm ho hc' hr => by
    have k := kind_of hm hc'
    have := may_kind hm
    omega
theorem reads_bool {b : UInt8} (h : Reads s (2 :: b :: r) false l) : Reads s r false (l ++ [⟨1, b.toNat, 0, ⟨#[]⟩⟩]) :=
  h.step fun x r2 hm ho hc hr => by
    have k := kind_of hm hc
    have K : x.kind = 1 := by simpa using k
    have a := may1_of K hm
    unfold tailV at hr
    rw [if_pos K] at hr
    simp only [List.cons_append, List.nil_append, List.cons.injEq] at hr
    refine ⟨rfl, ?_, hr.2⟩
    obtain ⟨k', i, r', t⟩ := x
    dsimp only at *
    obtain ⟨a1, a2, a3⟩ := a
    rw [K, a2, text_size0 a3 (show (⟨#[]⟩ : ByteArray).size = 0 from rfl), hr.1]
    rcases a1 with rfl | rfl <;> rfl
theorem reads_bool_bad (h : Reads s [2] false l) (rest' : List UInt8) (v : Val) : Reads s rest' true (l ++ [v]) :=
  h.step fun x r2 hm ho hc hr => by
    have k := kind_of hm hc
    have K : x.kind = 1 := by simpa using k
    unfold tailV at hr
    rw [if_pos K] at hr
    cases hr
theorem be_num (x : Nat) (h : x < 18446744073709551616) : Kl.num (be 8 x) = x := by rw [be_be' x h, Kl.num_be' 8 x (by simpa using h)]
theorem reads_int (h : Reads s (3 :: r) false l) : Reads s (r.drop 8) (decide (r.length < 8)) (l ++ [⟨2, (Kl.num (r.take 8) : Int) - 9223372036854775808, 0, ⟨#[]⟩⟩]) :=
  h.step fun x r2 hm ho hc hr => by
    have k := kind_of hm hc
    have K : x.kind = 2 := by simpa using k
    have a := may2_of K hm
    unfold tailV at hr
    rw [if_neg (by omega), if_pos K] at hr
    have hl := be_len 8 (flip x.int)
    have o := ho.int
    rw [hr, List.take_left' hl, List.drop_left' hl, be_num _ (flip_lt o), List.length_append, hl]
    refine ⟨by simp, ?_, rfl⟩
    obtain ⟨k', i, r', t⟩ := x
    dsimp only at *
    rw [K, a.1, text_size0 a.2 (show (⟨#[]⟩ : ByteArray).size = 0 from rfl)]
    unfold flip
    congr 1
    omega
theorem reads_num_bad (h : Reads s (c :: r) false l) (hc : c = 3 ∨ c = 4) (hr : r.length < 8) (rest' : List UInt8) (v : Val) : Reads s rest' true (l ++ [v]) :=
  h.step fun x r2 hm ho hc' hr' => by
    have k := kind_of hm hc'
    have K : x.kind = 2 ∨ x.kind = 3 := by
      rcases hc with rfl | rfl
      · left; simpa using k
      · right; simpa using k
    unfold tailV at hr'
    rcases K with K | K
    · rw [if_neg (by omega), if_pos K] at hr'
      have := congrArg List.length hr'
      rw [List.length_append, be_len] at this
      omega
    · rw [if_neg (by omega), if_neg (by omega), if_pos K] at hr'
      have := congrArg List.length hr'
      rw [List.length_append, be_len] at this
      omega
theorem tryBack_key {c : Nat} (h : c < 18446744073709551616) : tryBack (Rl.keyOf c) = c := by
  unfold Rl.keyOf tryBack
  split <;> split <;> omega
theorem back_key {c : Nat} (h : c < 18446744073709551616) (hc : Rl.canon c = c) : back (Rl.key c) = (c, 0) := by
  have e : Rl.key c = Rl.keyOf c := by unfold Rl.key; rw [hc]
  unfold back
  rw [e, tryBack_key h, if_pos e]
theorem reads_real (h : Reads s (4 :: r) false l) : Reads s (r.drop 8) (decide (r.length < 8) || decide ((back (Kl.num (r.take 8))).2 ≠ 0)) (l ++ [⟨3, 0, (back (Kl.num (r.take 8))).1, ⟨#[]⟩⟩]) :=
  h.step fun x r2 hm ho hc hr => by
    have k := kind_of hm hc
    have K : x.kind = 3 := by simpa using k
    have a := may3_of K hm
    unfold tailV at hr
    rw [if_neg (by omega), if_neg (by omega), if_pos K] at hr
    have hl := be_len 8 (Rl.key x.real)
    have o := ho.real
    have hk : Rl.key x.real < 18446744073709551616 := Rl.keyOf_lt (Rl.canon_lt o)
    rw [hr, List.take_left' hl, List.drop_left' hl, be_num _ hk, List.length_append, hl, back_key o a.2.1]
    refine ⟨by simp, ?_, rfl⟩
    obtain ⟨k', i, r', t⟩ := x
    dsimp only at *
    rw [K, a.1, text_size0 a.2.2 (show (⟨#[]⟩ : ByteArray).size = 0 from rfl)]
theorem tail_text {x : Val} (K : x.kind = 4 ∨ x.kind = 5) (r2 : List UInt8) : tailV x ++ r2 = Kl.esc x.text.data.toList ++ 0 :: 1 :: r2 := by
  unfold tailV
  rw [if_neg (by omega), if_neg (by omega), if_neg (by omega), if_pos K, List.append_assoc]; rfl
theorem reads_text {i : Nat} (h : Reads s (c :: r) false l) (hc : c = 5 ∨ c = 6) (hi : Lib.index r [0, 1] = i) :
    Reads s (r.drop (i + 2)) false (l ++ [⟨c.toNat - 1, 0, 0, ⟨(Lib.replaceAll (r.take i) [0, 255] [0]).toArray⟩⟩]) :=
  h.step fun x r2 hm ho hc' hr => by
    have k := kind_of hm hc'
    have K : x.kind = 4 ∨ x.kind = 5 := by
      rcases hc with rfl | rfl
      · left; simpa using k
      · right; simpa using k
    have a := may45_of K hm
    rw [tail_text K] at hr
    rw [hr, Kl.index_end] at hi
    obtain rfl : (Kl.esc x.text.data.toList).length = i := by omega
    refine ⟨rfl, ?_, ?_⟩
    · rw [hr, List.take_left, Kl.replaceAll_back]
      obtain ⟨k', i, r', t⟩ := x
      dsimp only at *
      rw [a.1, a.2.1, ← k]; rfl
    · rw [hr, ← List.drop_drop, List.drop_left]; rfl
theorem reads_text_bad (h : Reads s (c :: r) false l) (hc : c = 5 ∨ c = 6) (hi : Lib.index r [0, 1] = -1) (rest' : List UInt8) (v : Val) : Reads s rest' true (l ++ [v]) :=
  h.step fun x r2 hm ho hc' hr => by
    have k := kind_of hm hc'
    have K : x.kind = 4 ∨ x.kind = 5 := by
      rcases hc with rfl | rfl
      · left; simpa using k
      · right; simpa using k
    rw [tail_text K] at hr
    rw [hr, Kl.index_end] at hi
    omega
end
end Go.Proofs.YtafialodjnjihaaDoor
