/- append of a slice of records that came in, to nil. No condition. -/
import Derived.Test.YtafialodjnjihaaMany
import Derived.Laws.AppendOwnNone
import Derived.Test.YtafialodjnjihaaArgs
namespace Go.Proofs.Ytafialodjnjihaa
open Go Go.ChangeShapes Go.WideShapes Go.RowKit Go.Deep
set_option maxRecDepth 100000
set_option linter.unusedVariables false

theorem recs_nil {H : Type} {enc : TypeId × Value → H} {w : World} {a : Option Addr} {n c : Nat} {d : DataW H} {p : List MemPlace} (h : DataW.Trod enc Try.prog w 0 (fun _ => true) true 31 (.slice a n c) d p) : a = none → c = 0 := by
  obtain ⟨fuel, hf⟩ := h
  rcases open_slice Try.underlying31 hf with ⟨hcs, _⟩ | ⟨x, l, cc, m, n', D, Pl, hcs, hb, hl, hm, hmm, hx, hi⟩
  · simp [Value.cells] at hcs
    intro _; exact hcs.2.2
  · simp [Value.cells] at hcs
    obtain ⟨rfl, rfl, rfl⟩ := hcs
    intro h; cases h

theorem flat_cells {w : World} {b off n : Nat} {rs : List Rc} (hl : rs.length = n) (hc : ∀ i, i < n → ∀ j u, (rs.getD i Rc.zero).cells[j]? = some u → w.cell? ⟨b, off + i * 3 + j, none⟩ = some u) :
    ∀ j u, (flat rs)[j]? = some u → w.cell? ((⟨b, off, none⟩ : Addr).add j) = some u := by
  intro j u hu
  have hj : j < n * 3 := by
    have := (List.getElem?_eq_some_iff.1 hu).1
    rw [flat_len, hl] at this; exact this
  have hi : j / 3 < n := by omega
  have hm : j % 3 < 3 := Nat.mod_lt _ (by omega)
  have hlen : (rs.getD (j / 3) Rc.zero).cells.length = 3 := rfl
  have hu' : (rs.getD (j / 3) Rc.zero).cells[j % 3]? = some u := by
    rw [List.getElem?_eq_getElem (by omega)]
    have := flat_at rs (j / 3) (by omega) (j % 3) _ (List.getElem?_eq_getElem (by omega))
    rw [show j / 3 * 3 + j % 3 = j by omega, hu] at this
    exact this.symm
  have := hc (j / 3) hi (j % 3) u hu'
  rw [add_at]
  rw [show off + j / 3 * 3 + j % 3 = off + j by omega] at this
  exact this
theorem flat_one' (rs : List Rc) : ∀ u ∈ flat rs, u.oneCell' = true := by
  intro u hu
  obtain ⟨r, _, hr⟩ := List.mem_flatMap.1 hu
  simp [Rc.cells] at hr
  rcases hr with rfl | rfl | rfl <;> rfl

theorem append_recs {w : World} {ops : Array Oper} {rest : List Oper} {o : Oper} {act : Act} {Q : Exit → Act → World → Prop} (hgd : o.guard = none) (x : Operand)
    (ho : o.op = .call { callee := .builtin .append, args := #[.const (.slice none 0 0), x], argTypes := #[31, 31] })
    (a : Option Addr) (n c : Nat) (rs : List Rc) (hx : act.eval x = .slice a n c) (base : Nat) (hr : Recs3 w a n rs) (hnil : a = none → c = 0) (hn : n ≤ 200) (hbase : base ≤ w.heap.size)
    (h : ∀ v' w', w'.ownsRow base 33 3 v' n (flat rs) → w.grownBy w' none → wpList Try.prog ops Q rest (act.put o.dst v') w') : wpList Try.prog ops Q (o :: rest) act w := by
  obtain ⟨z33, hi, hz0, hz1, hz2⟩ := some33
  cases a with
  | none =>
    have h0 : n = 0 := by
      rcases Nat.eq_zero_or_pos n with h | h
      · exact h
      · obtain ⟨_, _, h1, _⟩ := hr.2.2.2 h; cases h1
    subst h0
    obtain rfl := hnil rfl
    have hrs : rs = [] := List.length_eq_zero_iff.1 hr.1
    subst hrs
    exact wpList_append_own_none hgd _ x 31 ho base 33 z33 3 Try.underlying31 hi _ 0 [] rfl (World.ownsRow_nil _ _ _ _) hx (h _ _ (World.ownsRow_nil _ _ _ _) (World.grownBy.refl _ _))
  | some ad =>
    refine wpList_append_own w hgd _ x 31 ho base 33 z33 (.agg #[.int .u64 0, .int .u64 0, .string ⟨#[]⟩]) 3 32 Try.underlying31 hi hz0 hz1 hz2 rfl (by decide) _ 0 [] rfl (World.ownsRow_nil _ _ _ _) ad n c (flat rs) hx
      (by rw [flat_len, hr.1]) ?_ (flat_one' rs) (by unfold maxLen; omega) (by omega) hbase ?_
    · rcases Nat.eq_zero_or_pos n with h0 | h0
      · subst h0
        have hrs : rs = [] := List.length_eq_zero_iff.1 hr.1
        subst hrs
        intro j u hu; simp [flat] at hu
      · obtain ⟨b, off, e, hb, hc⟩ := hr.2.2.2 h0
        cases e
        exact flat_cells hr.1 hc
    · intro v' w' h1 h2 _
      rw [Nat.zero_add, List.nil_append] at h1
      exact h v' w' h1 h2

end Go.Proofs.Ytafialodjnjihaa
