/- Records in and out: what Take and the reference's Take do, as one step on a plain state. No condition. -/
import Derived.Test.YtafialodjnjihaaArgs
import Derived.Test.YtafialodjnjihaaInlet
import Derived.Test.YtafialodjnjihaaRow
import Derived.BigQuiet
namespace Go.Proofs.Ytafialodjnjihaa
open Go Go.RowKit
set_option maxRecDepth 100000
set_option linter.unusedVariables false

/-- What an inlet holds: the next offset; how many were fresh, were there, were ahead. -/
structure St where
  n : Nat
  f : Nat
  a : Nat
  g : Nat
def St.low (s : St) : Array Value := #[.int .i64 s.f, .int .i64 s.a, .int .i64 s.g, .int .u64 s.n]
def St.ref (s : St) : Array Value := #[.int .u64 s.n, .int .i64 s.f, .int .i64 s.a, .int .i64 s.g]
def St.ok (k : Nat) (s : St) : Prop := s.n ≤ 1099511627776 ∧ s.f ≤ k ∧ s.a ≤ k ∧ s.g ≤ k
def St.take (s : St) (r : Rc) : St × Bool × Nat :=
  if 1099511627776 ≤ r.off ∨ r.seq ≠ r.off + 1 then (s, false, 2)
  else if s.n < r.off then ({ s with g := s.g + 1 }, false, 190)
  else if r.off < s.n then ({ s with a := s.a + 1 }, false, 0)
  else ({ s with n := s.n + 1, f := s.f + 1 }, true, 0)
theorem St.take_ok {k : Nat} {s : St} (h : s.ok k) (r : Rc) : (s.take r).1.ok (k + 1) := by
  obtain ⟨h1, h2, h3, h4⟩ := h
  unfold St.take St.ok
  split
  · simp; omega
  · split
    · simp; omega
    · split
      · simp; omega
      · simp; omega
def Rc.agg (r : Rc) : Value := .agg #[.int .u64 r.off, .int .u64 r.seq, .string r.text]

theorem take_step (b k : Nat) (s : St) (r : Rc) (w : World) (hk : k ≤ 4611686018427387900) (hs : s.ok k) (hb : Whole1 w b 86 s.low) :
    Calls Try.prog 19 #[.pointer (some ⟨b, 0, none⟩), r.agg] w fun e w' =>
      e = .returned (.tuple #[.bool (s.take r).2.1, .int .i64 (s.take r).2.2]) ∧ Whole1 w' b 86 (s.take r).1.low ∧ w.grownBy w' (some b) := by
  obtain ⟨h1, h2, h3, h4⟩ := hs
  have stay : ∀ w' : World, w' = w.alloc (.cells #[.int .u64 r.off, .int .u64 r.seq, .string r.text] 33) → Whole1 w' b 86 s.low ∧ w.grownBy w' (some b) := fun w' e => by
    subst e; exact ⟨hb.alloc _, Only.alloc (World.grownBy.refl _ _) _⟩
  unfold St.take
  by_cases c1 : 1099511627776 ≤ r.off
  · rw [if_pos (.inl c1)]
    exact (take_arg b r.off r.seq r.text w (by omega)).mono fun e w' ⟨h, hw⟩ => ⟨h, stay w' hw⟩
  · by_cases c2 : r.seq ≠ r.off + 1
    · rw [if_pos (.inr c2)]
      exact (take_seq b r.off r.seq r.text w (by omega) (by omega) (by simp; omega)).mono fun e w' ⟨h, hw⟩ => ⟨h, stay w' hw⟩
    · rw [if_neg (by omega)]
      by_cases c3 : s.n < r.off
      · rw [if_pos c3]
        exact take_gap b s.f s.a s.g s.n r.off r.seq r.text w (by omega) (by omega) (by omega) (by simp; omega) (by omega) (by omega) (by omega) hb
      · rw [if_neg c3]
        by_cases c4 : r.off < s.n
        · rw [if_pos c4]
          exact take_again b s.f s.a s.g s.n r.off r.seq r.text w (by omega) (by omega) (by omega) (by omega) (by omega) (by omega) hb
        · rw [if_neg c4]
          exact take_fresh b s.f s.a s.g s.n r.off r.seq r.text w (by omega) (by omega) (by omega) (by simp; omega) (by simp; omega) (by omega) (by omega) (by omega) (by omega) hb

/-! ### The reference's -/
theorem may_no (o q : Int) (t : ByteArray) (w : World) (h : ¬ o < 1099511627776) :
    Calls Try.prog 63 #[.agg #[.int .u64 o, .int .u64 q, .string t]] w fun e w' => e = .returned (.bool false) ∧ w' = w.alloc (.cells #[.int .u64 o, .int .u64 q, .string t] 33) := by
  go_enter Try.func63, Try.ntmps63
  go_wp2
  go_ret
  exact ⟨rfl, rfl⟩
theorem may_seq (o q : Int) (t : ByteArray) (w : World) (h0 : 0 ≤ o) (h : o < 1099511627776) (h2 : (q == o + 1) = false) :
    Calls Try.prog 63 #[.agg #[.int .u64 o, .int .u64 q, .string t]] w fun e w' => e = .returned (.bool false) ∧ w' = w.alloc (.cells #[.int .u64 o, .int .u64 q, .string t] 33) := by
  go_enter Try.func63, Try.ntmps63
  go_wp2
  go_ret
  exact ⟨rfl, rfl⟩
theorem may_yes (o q : Int) (t : ByteArray) (w : World) (h0 : 0 ≤ o) (h : o < 1099511627776) (h2 : (q == o + 1) = true) :
    Calls Try.prog 63 #[.agg #[.int .u64 o, .int .u64 q, .string t]] w fun e w' => e = .returned (.bool true) ∧ w' = w.alloc (.cells #[.int .u64 o, .int .u64 q, .string t] 33) := by
  go_enter Try.func63, Try.ntmps63
  go_wp2
  go_ret
  exact ⟨rfl, rfl⟩

section
variable (b : Nat) (f a g n o q : Int) (t : ByteArray) (w : World)
theorem rtake_no (h : ¬ o < 1099511627776) (hb : Whole1 w b 41 #[.int .u64 n, .int .i64 f, .int .i64 a, .int .i64 g]) :
    Calls Try.prog 22 #[.pointer (some ⟨b, 0, none⟩), .agg #[.int .u64 o, .int .u64 q, .string t]] w fun e w' =>
      e = .returned (.tuple #[.bool false, .int .i64 2]) ∧ Whole1 w' b 41 #[.int .u64 n, .int .i64 f, .int .i64 a, .int .i64 g] ∧ w.grownBy w' (some b) := by
  have H1 := box ((hb.alloc (.cells #[.int .u64 o, .int .u64 q, .string t] 33)).alloc (.cells #[.int .u64 o, .int .u64 q, .string t] 33))
  clear hb
  go_enter Try.func22, Try.ntmps22
  go_wp2_with fail
  refine (may_no _ _ _ _ (by omega)).mono ?_
  rintro e w1 ⟨rfl, rfl⟩
  go_wp2_with fail
  go_ret2
  exact ⟨rfl, H1.out, Only.alloc (Only.alloc (World.grownBy.refl _ _) _) _⟩
theorem rtake_seq (h0 : 0 ≤ o) (h : o < 1099511627776) (h2 : (q == o + 1) = false) (hb : Whole1 w b 41 #[.int .u64 n, .int .i64 f, .int .i64 a, .int .i64 g]) :
    Calls Try.prog 22 #[.pointer (some ⟨b, 0, none⟩), .agg #[.int .u64 o, .int .u64 q, .string t]] w fun e w' =>
      e = .returned (.tuple #[.bool false, .int .i64 2]) ∧ Whole1 w' b 41 #[.int .u64 n, .int .i64 f, .int .i64 a, .int .i64 g] ∧ w.grownBy w' (some b) := by
  have H1 := box ((hb.alloc (.cells #[.int .u64 o, .int .u64 q, .string t] 33)).alloc (.cells #[.int .u64 o, .int .u64 q, .string t] 33))
  clear hb
  go_enter Try.func22, Try.ntmps22
  go_wp2_with fail
  refine (may_seq _ _ _ _ h0 h h2).mono ?_
  rintro e w1 ⟨rfl, rfl⟩
  go_wp2_with fail
  go_ret2
  exact ⟨rfl, H1.out, Only.alloc (Only.alloc (World.grownBy.refl _ _) _) _⟩
set_option maxHeartbeats 1000000 in
theorem rtake_gap (h0 : 0 ≤ o) (h : o < 1099511627776) (h2 : (q == o + 1) = true) (hn : n < o) (hg0 : 0 ≤ g) (hg : g < 4611686018427387904) (hb : Whole1 w b 41 #[.int .u64 n, .int .i64 f, .int .i64 a, .int .i64 g]) :
    Calls Try.prog 22 #[.pointer (some ⟨b, 0, none⟩), .agg #[.int .u64 o, .int .u64 q, .string t]] w fun e w' =>
      e = .returned (.tuple #[.bool false, .int .i64 190]) ∧ Whole1 w' b 41 #[.int .u64 n, .int .i64 f, .int .i64 a, .int .i64 (g + 1)] ∧ w.grownBy w' (some b) := by
  have hlt := hb.lt
  have s1 := Whole1.made w 33 #[.int .u64 o, .int .u64 q, .string t]
  have h1 := (hb.alloc (.cells #[.int .u64 o, .int .u64 q, .string t] 33)).alloc (.cells #[.int .u64 o, .int .u64 q, .string t] 33)
  have s2 := s1.alloc (.cells #[.int .u64 o, .int .u64 q, .string t] 33)
  have B1 := box (Only.alloc (Only.alloc (World.grownBy.refl w (some b)) (.cells #[.int .u64 o, .int .u64 q, .string t] 33)) (.cells #[.int .u64 o, .int .u64 q, .string t] 33))
  clear hb s1
  go_enter Try.func22, Try.ntmps22
  go_wp2_with fail
  refine (may_yes _ _ _ _ h0 h h2).mono ?_
  rintro e w1 ⟨rfl, hw1⟩
  rw [← hw1] at h1 s2 B1
  clear hw1
  have c0 := h1.cell 0
  have c1 := h1.cell 1
  have c2 := h1.cell 2
  have c3 := h1.cell 3
  have f0 := h1.frozen 0
  have f1 := h1.frozen 1
  have f2 := h1.frozen 2
  have f3 := h1.frozen 3
  have s20 := s2.cell 0
  have H1 := box h1
  clear h1 s2
  have HH := box (And.intro h0 h)
  clear h0 h
  go_wp2_with fail
  go_quiet (fail)
  go_wp2_with fail
  go_ret2
  exact ⟨rfl, ((H1.out.drewN _).put 3 _).to (by simp), Only.put (Only.drewN B1.out _) (.inl rfl) _⟩
set_option maxHeartbeats 1000000 in
theorem rtake_again (h0 : 0 ≤ o) (h : o < 1099511627776) (h2 : (q == o + 1) = true) (hn0 : ¬ n < o) (hn : o < n) (hg0 : 0 ≤ a) (hg : a < 4611686018427387904) (hb : Whole1 w b 41 #[.int .u64 n, .int .i64 f, .int .i64 a, .int .i64 g]) :
    Calls Try.prog 22 #[.pointer (some ⟨b, 0, none⟩), .agg #[.int .u64 o, .int .u64 q, .string t]] w fun e w' =>
      e = .returned (.tuple #[.bool false, .int .i64 0]) ∧ Whole1 w' b 41 #[.int .u64 n, .int .i64 f, .int .i64 (a + 1), .int .i64 g] ∧ w.grownBy w' (some b) := by
  have hlt := hb.lt
  have s1 := Whole1.made w 33 #[.int .u64 o, .int .u64 q, .string t]
  have h1 := (hb.alloc (.cells #[.int .u64 o, .int .u64 q, .string t] 33)).alloc (.cells #[.int .u64 o, .int .u64 q, .string t] 33)
  have s2 := s1.alloc (.cells #[.int .u64 o, .int .u64 q, .string t] 33)
  have B1 := box (Only.alloc (Only.alloc (World.grownBy.refl w (some b)) (.cells #[.int .u64 o, .int .u64 q, .string t] 33)) (.cells #[.int .u64 o, .int .u64 q, .string t] 33))
  clear hb s1
  go_enter Try.func22, Try.ntmps22
  go_wp2_with fail
  refine (may_yes _ _ _ _ h0 h h2).mono ?_
  rintro e w1 ⟨rfl, hw1⟩
  rw [← hw1] at h1 s2 B1
  clear hw1
  have c0 := h1.cell 0
  have c1 := h1.cell 1
  have c2 := h1.cell 2
  have c3 := h1.cell 3
  have f0 := h1.frozen 0
  have f1 := h1.frozen 1
  have f2 := h1.frozen 2
  have f3 := h1.frozen 3
  have s20 := s2.cell 0
  have H1 := box h1
  clear h1 s2
  have HH := box (And.intro h0 h)
  clear h0 h
  go_wp2_with fail
  go_quiet (fail)
  go_wp2_with fail
  go_quiet (fail)
  go_wp2_with fail
  go_ret2
  exact ⟨rfl, ((H1.out.drewN _).put 2 _).to (by simp), Only.put (Only.drewN B1.out _) (.inl rfl) _⟩
set_option maxHeartbeats 1000000 in
theorem rtake_fresh (h0 : 0 ≤ o) (h : o < 1099511627776) (h2 : (q == o + 1) = true) (hn0 : ¬ n < o) (hn : ¬ o < n) (hn0 : 0 ≤ n) (hn : n < 4611686018427387904) (hg0 : 0 ≤ f) (hg : f < 4611686018427387904) (hb : Whole1 w b 41 #[.int .u64 n, .int .i64 f, .int .i64 a, .int .i64 g]) :
    Calls Try.prog 22 #[.pointer (some ⟨b, 0, none⟩), .agg #[.int .u64 o, .int .u64 q, .string t]] w fun e w' =>
      e = .returned (.tuple #[.bool true, .int .i64 0]) ∧ Whole1 w' b 41 #[.int .u64 (n + 1), .int .i64 (f + 1), .int .i64 a, .int .i64 g] ∧ w.grownBy w' (some b) := by
  have hlt := hb.lt
  have s1 := Whole1.made w 33 #[.int .u64 o, .int .u64 q, .string t]
  have h1 := (hb.alloc (.cells #[.int .u64 o, .int .u64 q, .string t] 33)).alloc (.cells #[.int .u64 o, .int .u64 q, .string t] 33)
  have s2 := s1.alloc (.cells #[.int .u64 o, .int .u64 q, .string t] 33)
  have B1 := box (Only.alloc (Only.alloc (World.grownBy.refl w (some b)) (.cells #[.int .u64 o, .int .u64 q, .string t] 33)) (.cells #[.int .u64 o, .int .u64 q, .string t] 33))
  clear hb s1
  go_enter Try.func22, Try.ntmps22
  go_wp2_with fail
  refine (may_yes _ _ _ _ h0 h h2).mono ?_
  rintro e w1 ⟨rfl, hw1⟩
  rw [← hw1] at h1 s2 B1
  clear hw1
  have c0 := h1.cell 0
  have c1 := h1.cell 1
  have c2 := h1.cell 2
  have c3 := h1.cell 3
  have f0 := h1.frozen 0
  have f1 := h1.frozen 1
  have f2 := h1.frozen 2
  have f3 := h1.frozen 3
  have s20 := s2.cell 0
  have H1 := box h1
  clear h1 s2
  have HH := box (And.intro h0 h)
  clear h0 h
  go_wp2_with fail
  go_quiet (fail)
  go_wp2_with fail
  go_quiet (fail)
  go_wp2_with fail
  go_ret2
  exact ⟨rfl, (((H1.out.drewN _).put 0 _).put 1 _).to (by simp), Only.put (Only.put (Only.drewN B1.out _) (.inl rfl) _) (.inl rfl) _⟩
end

theorem rtake_step (b k : Nat) (s : St) (r : Rc) (w : World) (hk : k ≤ 4611686018427387900) (hs : s.ok k) (hb : Whole1 w b 41 s.ref) :
    Calls Try.prog 22 #[.pointer (some ⟨b, 0, none⟩), r.agg] w fun e w' =>
      e = .returned (.tuple #[.bool (s.take r).2.1, .int .i64 (s.take r).2.2]) ∧ Whole1 w' b 41 (s.take r).1.ref ∧ w.grownBy w' (some b) := by
  obtain ⟨h1, h2, h3, h4⟩ := hs
  unfold St.take
  by_cases c1 : 1099511627776 ≤ r.off
  · rw [if_pos (.inl c1)]
    exact rtake_no b s.f s.a s.g s.n r.off r.seq r.text w (by omega) hb
  · by_cases c2 : r.seq ≠ r.off + 1
    · rw [if_pos (.inr c2)]
      exact rtake_seq b s.f s.a s.g s.n r.off r.seq r.text w (by omega) (by omega) (by simp; omega) hb
    · rw [if_neg (by omega)]
      by_cases c3 : s.n < r.off
      · rw [if_pos c3]
        exact rtake_gap b s.f s.a s.g s.n r.off r.seq r.text w (by omega) (by omega) (by simp; omega) (by omega) (by omega) (by omega) hb
      · rw [if_neg c3]
        by_cases c4 : r.off < s.n
        · rw [if_pos c4]
          exact rtake_again b s.f s.a s.g s.n r.off r.seq r.text w (by omega) (by omega) (by simp; omega) (by omega) (by omega) (by omega) (by omega) hb
        · rw [if_neg c4]
          exact rtake_fresh b s.f s.a s.g s.n r.off r.seq r.text w (by omega) (by omega) (by simp; omega) (by omega) (by omega) (by omega) (by omega) (by omega) (by omega) hb

end Go.Proofs.Ytafialodjnjihaa
