/- The inlet's functions, one contract each: what New, Take, Next and Counts answer and what they change. Conditions: the counters lie below 2^62. -/
import Derived.Test.YtafialodjnjihaaProg
import Derived.Test.YtafialodjnjihaaKit
import Derived.Deep.QuietTactic
import Derived.BigQuiet
namespace Go.Proofs.Ytafialodjnjihaa
open Go Go.RowKit

theorem new_ok (n : Int) (w : World) (hn : n ≤ 1099511627776) :
    Calls Try.prog 18 #[.int .u64 n] w fun e w' => e = .returned (.tuple #[.pointer (some ⟨w.heap.size, 0, none⟩), .int .i64 0]) ∧ w' = w.alloc (.cells #[.int .i64 0, .int .i64 0, .int .i64 0, .int .u64 n] 86) := by
  go_enter Try.func18, Try.ntmps18
  go_wp2
  go_ret2
  exact ⟨rfl, rfl⟩

theorem new_no (n : Int) (w : World) (hn : (1099511627776 : Int) < n) :
    Calls Try.prog 18 #[.int .u64 n] w fun e w' => e = .returned (.tuple #[.pointer none, .int .i64 2]) ∧ w' = w := by
  go_enter Try.func18, Try.ntmps18
  go_wp2
  go_ret2
  exact ⟨rfl, rfl⟩

set_option maxRecDepth 100000

theorem take_nil (off seq : Int) (t : ByteArray) (w : World) :
    Calls Try.prog 19 #[.pointer none, .agg #[.int .u64 off, .int .u64 seq, .string t]] w fun e w' =>
      e = .returned (.tuple #[.bool false, .int .i64 1]) ∧ w' = w.alloc (.cells #[.int .u64 off, .int .u64 seq, .string t] 33) := by
  go_enter Try.func19, Try.ntmps19
  go_wp2
  go_ret2
  exact ⟨rfl, rfl⟩

theorem take_arg (b : Nat) (off seq : Int) (t : ByteArray) (w : World) (h : (1099511627776 : Int) ≤ off) :
    Calls Try.prog 19 #[.pointer (some ⟨b, 0, none⟩), .agg #[.int .u64 off, .int .u64 seq, .string t]] w fun e w' =>
      e = .returned (.tuple #[.bool false, .int .i64 2]) ∧ w' = w.alloc (.cells #[.int .u64 off, .int .u64 seq, .string t] 33) := by
  go_enter Try.func19, Try.ntmps19
  go_wp2
  go_ret2
  exact ⟨rfl, rfl⟩

theorem take_seq (b : Nat) (off seq : Int) (t : ByteArray) (w : World) (h0 : 0 ≤ off) (h : ¬ (1099511627776 : Int) ≤ off) (h2 : (seq != off + 1) = true) :
    Calls Try.prog 19 #[.pointer (some ⟨b, 0, none⟩), .agg #[.int .u64 off, .int .u64 seq, .string t]] w fun e w' =>
      e = .returned (.tuple #[.bool false, .int .i64 2]) ∧ w' = w.alloc (.cells #[.int .u64 off, .int .u64 seq, .string t] 33) := by
  go_enter Try.func19, Try.ntmps19
  go_wp2
  go_ret2
  exact ⟨rfl, rfl⟩

theorem take_again (b : Nat) (f a g n off seq : Int) (t : ByteArray) (w : World) (hs : seq = off + 1) (h0 : 0 ≤ off) (h : ¬ (1099511627776 : Int) ≤ off) (hn : off < n) (ha0 : 0 ≤ a) (ha : a < 4611686018427387904)
    (hb : Whole1 w b 86 #[.int .i64 f, .int .i64 a, .int .i64 g, .int .u64 n]) :
    Calls Try.prog 19 #[.pointer (some ⟨b, 0, none⟩), .agg #[.int .u64 off, .int .u64 seq, .string t]] w fun e w' =>
      e = .returned (.tuple #[.bool false, .int .i64 0]) ∧ Whole1 w' b 86 #[.int .i64 f, .int .i64 (a + 1), .int .i64 g, .int .u64 n] ∧ w.grownBy w' (some b) := by
  subst hs
  have hlt := hb.lt
  have h1 := (hb.alloc (.cells #[.int .u64 off, .int .u64 (off + 1), .string t] 33))
  have c0 := h1.cell 0
  have c1 := h1.cell 1
  have c2 := h1.cell 2
  have c3 := h1.cell 3
  have f0 := h1.frozen 0
  have f1 := h1.frozen 1
  have f2 := h1.frozen 2
  have f3 := h1.frozen 3
  have H1 := Lib.hid h1
  clear h1 hb
  go_enter Try.func19, Try.ntmps19
  go_wp2
  clear h
  go_quiet (fail)
  go_wp2
  go_ret2
  refine ⟨rfl, ?_, ?_⟩
  · exact ((H1.out.drewN _).put 1 _).to (by simp)
  · exact Only.put (Only.drewN (Only.alloc (World.grownBy.refl _ _) _) _) (.inl rfl) _

theorem take_gap (b : Nat) (f a g n off seq : Int) (t : ByteArray) (w : World) (hs : seq = off + 1) (h0 : 0 ≤ off) (h : ¬ (1099511627776 : Int) ≤ off) (hn0 : decide (off < n) = false) (hn : n < off) (hg0 : 0 ≤ g) (hg : g < 4611686018427387904)
    (hb : Whole1 w b 86 #[.int .i64 f, .int .i64 a, .int .i64 g, .int .u64 n]) :
    Calls Try.prog 19 #[.pointer (some ⟨b, 0, none⟩), .agg #[.int .u64 off, .int .u64 seq, .string t]] w fun e w' =>
      e = .returned (.tuple #[.bool false, .int .i64 190]) ∧ Whole1 w' b 86 #[.int .i64 f, .int .i64 a, .int .i64 (g + 1), .int .u64 n] ∧ w.grownBy w' (some b) := by
  subst hs
  have hlt := hb.lt
  have h1 := (hb.alloc (.cells #[.int .u64 off, .int .u64 (off + 1), .string t] 33))
  have c0 := h1.cell 0
  have c1 := h1.cell 1
  have c2 := h1.cell 2
  have c3 := h1.cell 3
  have f0 := h1.frozen 0
  have f1 := h1.frozen 1
  have f2 := h1.frozen 2
  have f3 := h1.frozen 3
  have H1 := Lib.hid h1
  clear h1 hb
  go_enter Try.func19, Try.ntmps19
  go_wp2
  clear h
  go_quiet (fail)
  go_wp2
  go_quiet (fail)
  go_wp2
  go_ret2
  refine ⟨rfl, ?_, ?_⟩
  · exact ((H1.out.drewN _).put 2 _).to (by simp)
  · exact Only.put (Only.drewN (Only.alloc (World.grownBy.refl _ _) _) _) (.inl rfl) _

theorem take_fresh (b : Nat) (f a g n off seq : Int) (t : ByteArray) (w : World) (hs : seq = off + 1) (h0 : 0 ≤ off) (h : ¬ (1099511627776 : Int) ≤ off) (hn0 : decide (off < n) = false) (hn1 : decide (n < off) = false) (hf0 : 0 ≤ f) (hf : f < 4611686018427387904) (hn0' : 0 ≤ n) (hn : n < 4611686018427387904)
    (hb : Whole1 w b 86 #[.int .i64 f, .int .i64 a, .int .i64 g, .int .u64 n]) :
    Calls Try.prog 19 #[.pointer (some ⟨b, 0, none⟩), .agg #[.int .u64 off, .int .u64 seq, .string t]] w fun e w' =>
      e = .returned (.tuple #[.bool true, .int .i64 0]) ∧ Whole1 w' b 86 #[.int .i64 (f + 1), .int .i64 a, .int .i64 g, .int .u64 (n + 1)] ∧ w.grownBy w' (some b) := by
  subst hs
  have hlt := hb.lt
  have h1 := (hb.alloc (.cells #[.int .u64 off, .int .u64 (off + 1), .string t] 33))
  have c0 := h1.cell 0
  have c1 := h1.cell 1
  have c2 := h1.cell 2
  have c3 := h1.cell 3
  have f0 := h1.frozen 0
  have f1 := h1.frozen 1
  have f2 := h1.frozen 2
  have f3 := h1.frozen 3
  have H1 := Lib.hid h1
  clear h1 hb
  go_enter Try.func19, Try.ntmps19
  go_wp2
  clear h
  go_quiet (fail)
  go_wp2
  go_quiet (fail)
  go_wp2
  go_ret2
  refine ⟨rfl, ?_, ?_⟩
  · exact (((H1.out.drewN _).put 3 _).put 0 _).to (by simp)
  · refine Only.put (g := b) (Only.put (g := b) (Only.drewN (Only.alloc (World.grownBy.refl _ _) _) _) ?_ _) ?_ _ <;> exact .inl rfl

theorem next_nil (w : World) : Calls Try.prog 20 #[.pointer none] w fun e w' => e = .returned (.int .u64 0) ∧ w' = w := by
  go_enter Try.func20, Try.ntmps20
  go_wp2
  go_ret
  exact ⟨rfl, rfl⟩

theorem next_any (b : Nat) (f a g n : Int) (w : World) (hb : Whole1 w b 86 #[.int .i64 f, .int .i64 a, .int .i64 g, .int .u64 n]) :
    Calls Try.prog 20 #[.pointer (some ⟨b, 0, none⟩)] w fun e w' => e = .returned (.int .u64 n) ∧ w' = w := by
  have c3 := hb.cell 3
  clear hb
  go_enter Try.func20, Try.ntmps20
  go_wp2
  go_ret
  exact ⟨rfl, rfl⟩

theorem counts_nil (w : World) : Calls Try.prog 25 #[.pointer none] w fun e w' => e = .returned (.tuple #[.int .i64 0, .int .i64 0, .int .i64 0]) ∧ w' = w := by
  go_enter Try.func25, Try.ntmps25
  go_wp2
  go_ret3
  exact ⟨rfl, rfl⟩

theorem counts_any (b : Nat) (f a g n : Int) (w : World) (hb : Whole1 w b 86 #[.int .i64 f, .int .i64 a, .int .i64 g, .int .u64 n]) :
    Calls Try.prog 25 #[.pointer (some ⟨b, 0, none⟩)] w fun e w' => e = .returned (.tuple #[.int .i64 f, .int .i64 a, .int .i64 g]) ∧ ∃ q, w' = w.drewN q := by
  have c0 := hb.cell 0
  have c1 := hb.cell 1
  have c2 := hb.cell 2
  clear hb
  go_enter Try.func25, Try.ntmps25
  go_wp2
  go_quiet (fail)
  go_wp2
  go_ret3
  exact ⟨rfl, _, rfl⟩

theorem rec_any (off : Int) (w : World) (h0 : 0 ≤ off) (h : off < 1099511627776) :
    Calls Try.prog 62 #[.int .u64 off] w fun e w' => e = .returned (.agg #[.int .u64 off, .int .u64 (off + 1), .string ⟨#[]⟩]) ∧ Below w.heap.size w w' := by
  go_enter Try.func62, Try.ntmps62
  go_wp2
  exact bodyPost_ret (v := .agg #[.int .u64 off, .int .u64 (off + 1), .string ⟨#[]⟩]) (by simp [results, Try.results62, go_sem]) rfl ⟨rfl, Below.alloc (Below.refl _ _) (Nat.le_refl _) _⟩

end Go.Proofs.Ytafialodjnjihaa
