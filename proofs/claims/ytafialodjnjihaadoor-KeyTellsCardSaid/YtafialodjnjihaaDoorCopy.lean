/- A copy of a row of values. No condition. -/
import Derived.Test.YtafialodjnjihaaDoorRows2
import Derived.Test.YtafialodjnjihaaDoorRow
namespace Go.Proofs.YtafialodjnjihaaDoor
open Go Go.RowKit
set_option maxRecDepth 100000
set_option linter.unusedVariables false

def flat (l : List Val) : List Value := l.flatMap Val.cells
theorem flat_len (l : List Val) : (flat l).length = l.length * 4 := by
  induction l with
  | nil => rfl
  | cons r l ih => simp only [flat, List.flatMap_cons, List.length_append, List.length_cons] at ih ⊢; rw [ih]; simp [Val.cells]; omega
theorem flat_at (l : List Val) : ∀ (i : Nat), i < l.length → ∀ j u, (l.getD i Val.zero).cells[j]? = some u → (flat l)[i * 4 + j]? = some u := by
  induction l with
  | nil => intro i h; simp at h
  | cons r l ih =>
    intro i h j u hu
    have hj : j < 4 := by
      have := (List.getElem?_eq_some_iff.1 hu).1
      simpa [Val.cells] using this
    have e : flat (r :: l) = r.cells ++ flat l := rfl
    have hr : r.cells.length = 4 := rfl
    rw [e]
    cases i with
    | zero =>
      rw [List.getElem?_append_left (by omega)]
      simpa using hu
    | succ i =>
      rw [List.getElem?_append_right (by omega), hr]
      have := ih i (by simp at h; omega) j u (by simpa using hu)
      rw [show (i + 1) * 4 + j - 4 = i * 4 + j by omega]
      exact this
theorem info24 : (Tryd.prog.info? 24).map (fun i => (i.zero, i.size, i.bytes)) = some (some (.agg #[.int .u8 0, .int .i64 0, .int .u64 0, .string ⟨#[]⟩]), 4, 40) := by kernel_rfl
theorem flat_cells {w : World} {b off n : Nat} {rs : List Val} (hl : rs.length = n) (hc : ∀ i, i < n → ∀ j u, (rs.getD i Val.zero).cells[j]? = some u → w.cell? ⟨b, off + i * 4 + j, none⟩ = some u) :
    ∀ j u, (flat rs)[j]? = some u → w.cell? ((⟨b, off, none⟩ : Addr).add j) = some u := by
  intro j u hu
  have hj : j < n * 4 := by
    have := (List.getElem?_eq_some_iff.1 hu).1
    rw [flat_len, hl] at this; exact this
  have hi : j / 4 < n := by omega
  have hm : j % 4 < 4 := Nat.mod_lt _ (by omega)
  have hlen : (rs.getD (j / 4) Val.zero).cells.length = 4 := rfl
  have hu' : (rs.getD (j / 4) Val.zero).cells[j % 4]? = some u := by
    rw [List.getElem?_eq_getElem (by omega)]
    have := flat_at rs (j / 4) (by omega) (j % 4) _ (List.getElem?_eq_getElem (by omega))
    rw [show j / 4 * 4 + j % 4 = j by omega, hu] at this
    exact this.symm
  have := hc (j / 4) hi (j % 4) u hu'
  rw [add_at]
  rw [show off + j / 4 * 4 + j % 4 = off + j by omega] at this
  exact this
theorem flat_one (rs : List Val) : ∀ u ∈ flat rs, u.oneCell' = true := by
  intro u hu
  obtain ⟨r, _, hr⟩ := List.mem_flatMap.1 hu
  simp [Val.cells] at hr
  rcases hr with rfl | rfl | rfl | rfl <;> rfl
theorem append_vals {w : World} {ops : Array Oper} {rest : List Oper} {o : Oper} {act : Act} {Q : Exit → Act → World → Prop} (hgd : o.guard = none) (x : Operand)
    (ho : o.op = .call { callee := .builtin .append, args := #[.const (.slice none 0 0), x], argTypes := #[25, 25] })
    (a : Option Addr) (n c : Nat) (rs : List Val) (hx : act.eval x = .slice a n c) (base : Nat) (hr : Vals w a n rs) (hnil : a = none → c = 0) (hn : n ≤ 4000) (hbase : base ≤ w.heap.size)
    (h : ∀ v' w', w'.ownsRow base 24 4 v' n (flat rs) → w.grownBy w' none → wpList Tryd.prog ops Q rest (act.put o.dst v') w') : wpList Tryd.prog ops Q (o :: rest) act w := by
  obtain ⟨z24, hi, hz0, hz1, hz2⟩ := info_parts info24
  cases a with
  | none =>
    have h0 : n = 0 := by
      rcases Nat.eq_zero_or_pos n with h | h
      · exact h
      · obtain ⟨_, _, h1, _⟩ := hr.2.2.2 h; cases h1
    subst h0
    obtain rfl := hnil rfl
    have hrs : rs = [] := List.length_eq_zero_iff.1 hr.1
    subst hrs
    exact wpList_append_own_none hgd _ x 25 ho base 24 z24 4 Tryd.underlying25 hi _ 0 [] rfl (World.ownsRow_nil _ _ _ _) hx (h _ _ (World.ownsRow_nil _ _ _ _) (World.grownBy.refl _ _))
  | some ad =>
    refine wpList_append_own w hgd _ x 25 ho base 24 z24 (.agg #[.int .u8 0, .int .i64 0, .int .u64 0, .string ⟨#[]⟩]) 4 40 Tryd.underlying25 hi hz0 hz1 hz2 rfl (by decide) _ 0 [] rfl (World.ownsRow_nil _ _ _ _) ad n c (flat rs) hx
      (by rw [flat_len, hr.1]) ?_ (flat_one rs) (by unfold maxLen; omega) (by omega) hbase ?_
    · rcases Nat.eq_zero_or_pos n with h0 | h0
      · subst h0
        have hrs : rs = [] := List.length_eq_zero_iff.1 hr.1
        subst hrs
        intro j u hu; simp [flat] at hu
      · obtain ⟨b, off, e, hb, hc⟩ := hr.2.2.2 h0
        cases e
        exact flat_cells hr.1 hc
    · intro v' w' h1 h2 _
      rw [Nat.zero_add, List.nil_append] at h1
      exact h v' w' h1 h2
theorem own_lt {w : World} {base size n : Nat} {e : TypeId} {v : Value} {xs : List Value} (h : w.ownsRow base e size v n xs) : ∀ k, v.ownBlock = some k → k < w.heap.size := by
  intro k hk
  rcases h.2 with ⟨rfl, _⟩ | ⟨g, cap, cur, rfl, _, hh, _⟩
  · simp [Value.ownBlock] at hk
  · have : g = k := by simpa [Value.ownBlock] using hk
    subst this
    rcases Nat.lt_or_ge g w.heap.size with h' | h'
    · exact h'
    · rw [Array.getElem?_eq_none h'] at hh; cases hh
theorem vals_own {w : World} {base n : Nat} {v : Value} {xs : List Val} (h : w.ownsRow base 24 4 v n (flat xs)) (hl : xs.length = n) (hn : n ≤ 140737488355328) (hok : ∀ x ∈ xs, x.Ok ∧ x.text.size ≤ 140737488355328) :
    ∃ a cap, v = .slice a n cap ∧ Vals w a n xs := by
  by_cases h0 : 0 < n
  · obtain ⟨g, cap, rfl, hc⟩ := own_cell h h0
    refine ⟨_, cap, rfl, hl, hn, hok, fun _ => ⟨g, 0, rfl, own_lt h g rfl, fun i hi j u hu => ?_⟩⟩
    have := hc (i * 4 + j) u (flat_at xs i (by omega) j u hu)
    rw [Nat.zero_add]; exact this
  · obtain ⟨a, cap, rfl⟩ := own_any h
    exact ⟨a, cap, rfl, hl, hn, hok, fun h1 => absurd h1 h0⟩
def CopySays (n : Nat) (xs : List Val) (w : World) (e : Ending) (w' : World) : Prop := ∃ a cap, e = .returned (.slice a n cap) ∧ Vals w' a n xs ∧ Below w.heap.size w w'
theorem copy_any (a : Option Addr) (n c : Nat) (xs : List Val) (w : World) (hr : Vals w a n xs) (hnil : a = none → c = 0) (hn : n ≤ 4000) :
    Calls Tryd.prog 13 #[.slice a n c] w (CopySays n xs w) := by
  have HR := box hr
  have NIL := box hnil
  clear hr hnil
  go_enter Tryd.func13, Tryd.ntmps13
  go_wp2_with (at_builtin; refine append_vals rfl (.tmp 3) rfl a n c xs rfl w.heap.size HR.out NIL.out hn (Nat.le_refl _) ?_)
  intro v' w' hown hg
  obtain ⟨a', c', rfl, hv⟩ := vals_own hown HR.out.1 HR.out.2.1 HR.out.2.2.1
  have HV := box hv
  have B := box (Below.grown (Below.refl w.heap.size w) hg (Nat.le_refl _) (by simp))
  clear hown hg hv
  go_wp2_with fail
  go_ret
  exact ⟨a', c', rfl, HV.out, B.out⟩
end Go.Proofs.YtafialodjnjihaaDoor
