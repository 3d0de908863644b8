/- key.Get's memory between two steps: what was read so far is a row of the call's own, the two captured variables and take's value lie in blocks of their own. No condition. -/
import Derived.Test.YtafialodjnjihaaDoorTake2
import Derived.Test.YtafialodjnjihaaDoorPut2
namespace Go.Proofs.YtafialodjnjihaaDoor
open Go Go.RowKit Go.BigFrame
set_option maxRecDepth 100000
set_option linter.unusedVariables false

structure Mid (w : World) (N : Nat) (wr : World) (v : Value) (n : Nat) (cs : List Value) (t : ByteArray) (b : Bool) : Prop where
  R : Whole1 wr w.heap.size 9 #[.string t]
  D : Whole1 wr (w.heap.size + 1) 4 #[.bool b]
  T : Whole1 wr (w.heap.size + 2) 75 #[takeF w.heap.size (w.heap.size + 1)]
  own : wr.ownsRow w.heap.size 24 4 v n cs
  below : Below w.heap.size w wr
  lo : w.heap.size + 3 ≤ N
  hi : N ≤ wr.heap.size
  lt : ∀ k, v.ownBlock = some k → k < N
section
variable {w wr w1 : World} {N n : Nat} {v : Value} {cs : List Value} {t t1 : ByteArray} {b b1 : Bool}
theorem Mid.rebase (h : Mid w N wr v n cs t b) : Mid w wr.heap.size wr v n cs t b := ⟨h.R, h.D, h.T, h.own, h.below, Nat.le_trans h.lo h.hi, Nat.le_refl _, own_lt h.own⟩
theorem Mid.neR (h : Mid w N wr v n cs t b) : v.ownBlock ≠ some w.heap.size := own_ne h.own h.R (by decide)
theorem Mid.neD (h : Mid w N wr v n cs t b) : v.ownBlock ≠ some (w.heap.size + 1) := own_ne h.own h.D (by decide)
theorem Mid.neT (h : Mid w N wr v n cs t b) : v.ownBlock ≠ some (w.heap.size + 2) := own_ne h.own h.T (by decide)
theorem Mid.turn (h : Mid w N wr v n cs t b) (h2 : Whole1 w1 w.heap.size 9 #[.string t1] ∧ Whole1 w1 (w.heap.size + 1) 4 #[.bool b1] ∧ Turn w.heap.size (w.heap.size + 1) wr w1) : Mid w N w1 v n cs t1 b1 :=
  ⟨h2.1, h2.2.1, h2.2.2.whole h.T (by omega) (by omega), h2.2.2.own h.own h.neR h.neD, h.below.trans (h2.2.2.below (Nat.le_refl _) (by omega) h.below.size), h.lo, Nat.le_trans h.hi h2.2.2.size, h.lt⟩
theorem Mid.call (h : Mid w N wr v n cs t b) (hb : Below wr.heap.size wr w1) : Mid w N w1 v n cs t b :=
  h.turn ⟨h.R.below hb h.R.lt, h.D.below hb h.D.lt, Turn.of_below hb⟩
theorem Mid.alloc (h : Mid w N wr v n cs t b) (o : Obj) : Mid w N (wr.alloc o) v n cs t b := h.call ((Below.refl _ _).alloc (Nat.le_refl _) _)
theorem Mid.store (h : Mid w N wr v n cs t b) {g : Nat} (hg : N ≤ g) (i : Nat) (u : Value) : Mid w N (wr.setCell ⟨g, i, none⟩ u) v n cs t b := by
  have hlo := h.lo
  refine ⟨h.R.other (by show _ ≠ g; omega) u, h.D.other (by show _ ≠ g; omega) u, h.T.other (by show _ ≠ g; omega) u, ?_, h.below.setCell (by show _ ≤ g; omega) u, h.lo, by simpa [World.setCell] using h.hi, h.lt⟩
  refine ⟨h.own.1, ?_⟩
  rcases h.own.2 with hn | ⟨g', cap, cur, rfl, hb, hgg, rest⟩
  · exact .inl hn
  · refine .inr ⟨g', cap, cur, rfl, hb, ?_, rest⟩
    have := h.lt g' (by simp [Value.ownBlock])
    rw [Below.heap_setCell wr _ u g' (by show g' ≠ g; omega)]
    exact hgg
theorem Mid.setD (h : Mid w N wr v n cs t b) (u : Bool) : Mid w N (wr.setCell ⟨w.heap.size + 1, 0, none⟩ (.bool u)) v n cs t u :=
  h.turn ⟨h.R.other (by show _ ≠ w.heap.size + 1; omega) _, (h.D.put 0 _).to rfl, (Turn.refl _ _ _).setD _⟩
theorem Mid.append {v1 : Value} {n1 : Nat} {cs1 : List Value} (h : Mid w N wr v n cs t b) (ho : w1.ownsRow w.heap.size 24 4 v1 n1 cs1) (hb : Below w.heap.size wr w1) (hg : wr.grownBy w1 v.ownBlock) : Mid w w1.heap.size w1 v1 n1 cs1 t b :=
  ⟨h.R.grown hg (fun e => h.neR e.symm), h.D.grown hg (fun e => h.neD e.symm), h.T.grown hg (fun e => h.neT e.symm), ho, h.below.trans hb, Nat.le_trans h.lo (Nat.le_trans h.hi hg.size), Nat.le_refl _, own_lt ho⟩
end
/-- One value appended to a row of values of the call's own. -/
theorem append_val {w W : World} {ops : Array Oper} {rest : List Oper} {o : Oper} {a : Act} {Q : Exit → Act → World → Prop} (hgd : o.guard = none) (s x : Operand)
    (ho : o.op = .call { callee := .builtin .append, args := #[s, x], argTypes := #[25, 25] })
    (base : Nat) (v : Value) (n : Nat) (xs : List Val) (hs : a.eval s = v) (hown : w.ownsRow base 24 4 v n (flat xs)) (y : Val) (cs : Array Value) (hcs : cs = y.cells.toArray)
    (G : Nat) (hx : a.eval x = .slice (some ⟨G, 0, none⟩) 1 1) (hG : w.heap.size = G) (hn : n ≤ 100) (hbase : base ≤ w.heap.size)
    (h : ∀ v' w', w'.ownsRow base 24 4 v' (n + 1) (flat (xs ++ [y])) → Below base w w' → w.grownBy w' v.ownBlock → wpList Tryd.prog ops Q rest (a.put o.dst v') w') (hW : W = w.alloc (.cells cs 24)) : wpList Tryd.prog ops Q (o :: rest) a W := by
  obtain ⟨z24, hi, hz0, hz1, hz2⟩ := info_parts info24
  subst hcs hG
  refine append_one w hgd s x 25 ho base 24 z24 (.agg #[.int .u8 0, .int .i64 0, .int .u64 0, .string ⟨#[]⟩]) 4 40 Tryd.underlying25 hi hz0 hz1 hz2 rfl (by decide) v n (flat xs) hs hown y.cells hx rfl (by
    intro u hu
    simp [Val.cells] at hu
    rcases hu with rfl | rfl | rfl | rfl <;> rfl) (by unfold maxLen; omega) (by omega) hbase (fun v' w' h1 h2 h3 => h v' w' ?_ h2 h3) hW
  have e : flat (xs ++ [y]) = flat xs ++ y.cells := by simp [flat]
  rw [e]; exact h1
theorem replaceBack_len : ∀ (n : Nat) (l : List UInt8), l.length ≤ n → (Lib.replaceAll l [0, 255] [0]).length ≤ l.length := by
  intro n
  induction n with
  | zero =>
    intro l h
    obtain rfl : l = [] := List.eq_nil_of_length_eq_zero (by omega)
    rw [Kl.replaceAll_repl (by decide), Kl.repl_nil (by decide)]
    exact Nat.le_refl _
  | succ n ih =>
    intro l h
    cases l with
    | nil => rw [Kl.replaceAll_repl (by decide), Kl.repl_nil (by decide)]; exact Nat.le_refl _
    | cons b l =>
      rw [Kl.replaceAll_repl (by decide)]
      cases hp : [0, 255].isPrefixOf (b :: l) with
      | true =>
        rw [Kl.repl_cons_hit (by decide) hp]
        have := ih ((b :: l).drop [0, 255].length) (by simp at h ⊢; omega)
        rw [Kl.replaceAll_repl (by decide)] at this
        have h2 := (List.isPrefixOf_iff_prefix.1 hp).length_le
        simp at this h2 ⊢
        omega
      | false =>
        rw [Kl.repl_cons_miss (by decide) hp]
        have := ih l (by simp at h; omega)
        rw [Kl.replaceAll_repl (by decide)] at this
        simp
        exact this
/-- What key.Get tells, or the reference's. -/
def GetSays (s : ByteArray) (w : World) (e : Ending) (w' : World) : Prop :=
  ∃ (a : Option Addr) (n c : Nat) (l : List Val) (E : Int), e = .returned (.tuple #[.slice a n c, .int .i64 E]) ∧ Vals w' a n l ∧ (a = none → c = 0) ∧ Below w.heap.size w w' ∧
    ((E = 0 ∧ Good l ∧ keyL l = s.data.toList) ∨ (E = 7 ∧ n = 0 ∧ ∀ m, Good m → keyL m ≠ s.data.toList))
theorem vals_own' {w : World} {base n : Nat} {v : Value} {xs : List Val} (h : w.ownsRow base 24 4 v n (flat xs)) (hl : xs.length = n) (hn : n ≤ 140737488355328) (hok : ∀ x ∈ xs, x.Ok ∧ x.text.size ≤ 140737488355328) :
    ∃ a cap, v = .slice a n cap ∧ Vals w a n xs ∧ (a = none → cap = 0) := by
  obtain ⟨a, cap, rfl, hv⟩ := vals_own h hl hn hok
  refine ⟨a, cap, rfl, hv, ?_⟩
  rintro rfl
  rcases h.2 with ⟨h1, _⟩ | ⟨g, cap', cur, h1, _⟩
  · simp at h1; exact h1.2
  · simp at h1
theorem get_none {s : ByteArray} {w w' : World} (hb : Below w.heap.size w w') (h : ∀ m, Good m → keyL m ≠ s.data.toList) : GetSays s w (.returned (.tuple #[.slice none 0 0, .int .i64 7])) w' :=
  ⟨none, 0, 0, [], 7, rfl, ⟨rfl, Nat.zero_le _, by simp, fun h => absurd h (by omega)⟩, fun _ => rfl, hb, .inr ⟨rfl, rfl, h⟩⟩
/-- the number of an int64's bytes -/
theorem unflip_bits (z : Nat) (h : z < 18446744073709551616) : IntKind.i64.wrap (bits BinOp.xor IntKind.u64 (z : Int) 9223372036854775808) = (z : Int) - 9223372036854775808 := by
  have e := xor_u64 z 9223372036854775808 h (by decide)
  have e2 : bits BinOp.xor IntKind.u64 (z : Int) 9223372036854775808 = ((z ^^^ 9223372036854775808 : Nat) : Int) := e
  rw [e2, IntKind.wrap_i64]
  rcases Nat.lt_or_ge z 9223372036854775808 with h1 | h1
  · rw [xor_top_lt z h1]; omega
  · rw [xor_top_ge z h1 h]; omega
theorem num8 (l : List UInt8) : Kl.num (l.take 8) < 18446744073709551616 := by
  have h1 := Kl.num_lt (l.take 8)
  have h2 : 256 ^ (l.take 8).length ≤ 256 ^ 8 := Nat.pow_le_pow_right (by decide) (by rw [List.length_take]; omega)
  have h3 : (256 : Nat) ^ 8 = 18446744073709551616 := by decide
  omega
theorem back_lt (k : Nat) (h : k < 18446744073709551616) : (back k).1 < 18446744073709551616 := by
  unfold back; split
  · exact tryBack_lt k h
  · decide
theorem back_err (k : Nat) : (back k).2 = 0 ∨ (back k).2 = 2 := by
  unfold back; split
  · exact .inl rfl
  · exact .inr rfl
end Go.Proofs.YtafialodjnjihaaDoor
