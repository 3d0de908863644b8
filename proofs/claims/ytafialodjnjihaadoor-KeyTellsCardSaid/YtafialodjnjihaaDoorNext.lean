/- The reference's next: the value that a key begins with. Conditions: the text is at most 65536 bytes long and not empty. -/
import Derived.Test.YtafialodjnjihaaDoorRefPut
import Derived.Test.YtafialodjnjihaaDoorGet
namespace Go.Proofs.YtafialodjnjihaaDoor
open Go Go.RowKit Go.BigFrame
set_option maxRecDepth 100000
set_option linter.unusedVariables false

theorem nextZ (s : ByteArray) (w : World) (h0 : 0 < s.size) (hc : ∀ h : 0 < s.size, (s[0]'h).toNat = 0) : Calls Tryd.prog 59 #[.string s] w fun e w' => e = .returned (.tuple #[.agg #[.int .u8 0, .int .i64 0, .int .u64 0, .string ⟨#[]⟩], .int .i64 (-1)]) ∧ Below w.heap.size w w' := by
  have hp : (0 : Int) < (s.size : Int) := by omega
  go_enter Tryd.func59, Tryd.ntmps59
  go_wp2_with fail
  exact bodyPost_ret (v := .tuple #[.agg #[.int .u8 0, .int .i64 0, .int .u64 0, .string ⟨#[]⟩], .int .i64 (-1)]) (by simp [results, Tryd.results59, go_sem]) rfl ⟨rfl, (Below.refl _ _).alloc (Nat.le_refl _) _⟩
theorem nextNull (s : ByteArray) (w : World) (h0 : 0 < s.size) (hc : ∀ h : 0 < s.size, (s[0]'h).toNat = 1) : Calls Tryd.prog 59 #[.string s] w fun e w' => e = .returned (.tuple #[.agg #[.int .u8 0, .int .i64 0, .int .u64 0, .string ⟨#[]⟩], .int .i64 1]) ∧ Below w.heap.size w w' := by
  have hp : (0 : Int) < (s.size : Int) := by omega
  go_enter Tryd.func59, Tryd.ntmps59
  go_wp2_with fail
  exact bodyPost_ret (v := .tuple #[.agg #[.int .u8 0, .int .i64 0, .int .u64 0, .string ⟨#[]⟩], .int .i64 1]) (by simp [results, Tryd.results59, go_sem]) rfl ⟨rfl, below2 w _ _⟩
theorem nextBool (s : ByteArray) (w : World) (h0 : 0 < s.size) (hc : ∀ h : 0 < s.size, (s[0]'h).toNat = 2) (h2 : 2 ≤ s.size) : Calls Tryd.prog 59 #[.string s] w fun e w' => e = .returned (.tuple #[.agg #[.int .u8 1, .int .i64 (s[1]'(by omega)).toNat, .int .u64 0, .string ⟨#[]⟩], .int .i64 2]) ∧ Below w.heap.size w w' := by
  have hp : (0 : Int) < (s.size : Int) := by omega
  have hp1 : ¬ (s.size : Int) < 2 := by omega
  have hp2 : (1 : Int) < (s.size : Int) := by omega
  have h01 : 1 < s.size := by omega
  have hb : (s[1].toNat : Int) < 256 := by have := s[1].toNat_lt; omega
  go_enter Tryd.func59, Tryd.ntmps59
  go_wp2_with fail
  exact bodyPost_ret (v := .tuple #[.agg #[.int .u8 1, .int .i64 s[1].toNat, .int .u64 0, .string ⟨#[]⟩], .int .i64 2]) (by simp [results, Tryd.results59, go_sem]) rfl ⟨rfl, below2 w _ _⟩
theorem nextBoolS (s : ByteArray) (w : World) (h0 : 0 < s.size) (hc : ∀ h : 0 < s.size, (s[0]'h).toNat = 2) (h2 : s.size < 2) : Calls Tryd.prog 59 #[.string s] w fun e w' => e = .returned (.tuple #[.agg #[.int .u8 1, .int .i64 0, .int .u64 0, .string ⟨#[]⟩], .int .i64 (-1)]) ∧ Below w.heap.size w w' := by
  have hp : (0 : Int) < (s.size : Int) := by omega
  have hp1 : (s.size : Int) < 2 := by omega
  go_enter Tryd.func59, Tryd.ntmps59
  go_wp2_with fail
  exact bodyPost_ret (v := .tuple #[.agg #[.int .u8 1, .int .i64 0, .int .u64 0, .string ⟨#[]⟩], .int .i64 (-1)]) (by simp [results, Tryd.results59, go_sem]) rfl ⟨rfl, below2 w _ _⟩
theorem nextIntS (s : ByteArray) (w : World) (h0 : 0 < s.size) (hc : ∀ h : 0 < s.size, (s[0]'h).toNat = 3) (h9 : s.size < 9) : Calls Tryd.prog 59 #[.string s] w fun e w' => e = .returned (.tuple #[.agg #[.int .u8 2, .int .i64 0, .int .u64 0, .string ⟨#[]⟩], .int .i64 (-1)]) ∧ Below w.heap.size w w' := by
  have hp : (0 : Int) < (s.size : Int) := by omega
  have hp1 : (s.size : Int) < 9 := by omega
  go_enter Tryd.func59, Tryd.ntmps59
  go_wp2_with fail
  exact bodyPost_ret (v := .tuple #[.agg #[.int .u8 2, .int .i64 0, .int .u64 0, .string ⟨#[]⟩], .int .i64 (-1)]) (by simp [results, Tryd.results59, go_sem]) rfl ⟨rfl, below2 w _ _⟩
theorem nextRealS (s : ByteArray) (w : World) (h0 : 0 < s.size) (hc : ∀ h : 0 < s.size, (s[0]'h).toNat = 4) (h9 : s.size < 9) : Calls Tryd.prog 59 #[.string s] w fun e w' => e = .returned (.tuple #[.agg #[.int .u8 3, .int .i64 0, .int .u64 0, .string ⟨#[]⟩], .int .i64 (-1)]) ∧ Below w.heap.size w w' := by
  have hp : (0 : Int) < (s.size : Int) := by omega
  have hp1 : (s.size : Int) < 9 := by omega
  go_enter Tryd.func59, Tryd.ntmps59
  go_wp2_with fail
  exact bodyPost_ret (v := .tuple #[.agg #[.int .u8 3, .int .i64 0, .int .u64 0, .string ⟨#[]⟩], .int .i64 (-1)]) (by simp [results, Tryd.results59, go_sem]) rfl ⟨rfl, below2 w _ _⟩
theorem nextInt (s : ByteArray) (w : World) (h0 : 0 < s.size) (hc : ∀ h : 0 < s.size, (s[0]'h).toNat = 3) (h9 : 9 ≤ s.size) (q : ByteArray) (hq : s.extract 1 9 = q) (z : Nat) (hz : Kl.num q.data.toList = z) (hz8 : z < 18446744073709551616) : Calls Tryd.prog 59 #[.string s] w fun e w' => e = .returned (.tuple #[.agg #[.int .u8 2, .int .i64 ((z : Int) - 9223372036854775808), .int .u64 0, .string ⟨#[]⟩], .int .i64 9]) ∧ Below w.heap.size w w' := by
  have hp : (0 : Int) < (s.size : Int) := by omega
  have hp1 : ¬ (s.size : Int) < 9 := by omega
  have hp9 : (9 : Int) ≤ (s.size : Int) := by omega
  have q8 : q.size = 8 := by rw [← hq, ByteArray.size_extract]; omega
  have C79 := box (fun W => refnumber_any q W q8)
  rw [hz] at C79
  have hw : IntKind.i64.wrap (IntKind.u64.wrap ((z : Int) - 9223372036854775808)) = (z : Int) - 9223372036854775808 := by rw [IntKind.wrap_u64, IntKind.wrap_i64]; omega
  clear hz hz8
  go_enter Tryd.func59, Tryd.ntmps59
  go_wp2_with fail
  refine (C79.out _).mono ?_
  rintro e wq ⟨rfl, rfl⟩
  go_wp2_with fail
  exact bodyPost_ret (v := .tuple #[.agg #[.int .u8 2, .int .i64 ((z : Int) - 9223372036854775808), .int .u64 0, .string ⟨#[]⟩], .int .i64 9]) (by simp [results, Tryd.results59, go_sem]) rfl ⟨rfl, below2 w _ _⟩
theorem nextReal0 (s : ByteArray) (w : World) (h0 : 0 < s.size) (hc : ∀ h : 0 < s.size, (s[0]'h).toNat = 4) (h9 : 9 ≤ s.size) (q : ByteArray) (hq : s.extract 1 9 = q) (z X : Nat) (hz : Kl.num q.data.toList = z) (hz8 : z < 18446744073709551616) (hX : back z = (X, 0)) : Calls Tryd.prog 59 #[.string s] w fun e w' => e = .returned (.tuple #[.agg #[.int .u8 3, .int .i64 0, .int .u64 X, .string ⟨#[]⟩], .int .i64 9]) ∧ Below w.heap.size w w' := by
  have hp : (0 : Int) < (s.size : Int) := by omega
  have hp1 : ¬ (s.size : Int) < 9 := by omega
  have hp9 : (9 : Int) ≤ (s.size : Int) := by omega
  have q8 : q.size = 8 := by rw [← hq, ByteArray.size_extract]; omega
  have C79 := box (fun W => refnumber_any q W q8)
  rw [hz] at C79
  have C80 := box (fun W => refback_any z W hz8)
  rw [hX] at C80
  clear hz hz8 hX
  go_enter Tryd.func59, Tryd.ntmps59
  go_wp2_with fail
  refine (C79.out _).mono ?_
  rintro e wq ⟨rfl, rfl⟩
  go_wp2_with fail
  refine (C80.out _).mono ?_
  rintro e wq ⟨rfl, rfl⟩
  go_wp2_with fail
  exact bodyPost_ret (v := .tuple #[.agg #[.int .u8 3, .int .i64 0, .int .u64 X, .string ⟨#[]⟩], .int .i64 9]) (by simp [results, Tryd.results59, go_sem]) rfl ⟨rfl, below2 w _ _⟩
theorem nextReal2 (s : ByteArray) (w : World) (h0 : 0 < s.size) (hc : ∀ h : 0 < s.size, (s[0]'h).toNat = 4) (h9 : 9 ≤ s.size) (q : ByteArray) (hq : s.extract 1 9 = q) (z X : Nat) (hz : Kl.num q.data.toList = z) (hz8 : z < 18446744073709551616) (hX : back z = (X, 2)) : Calls Tryd.prog 59 #[.string s] w fun e w' => e = .returned (.tuple #[.agg #[.int .u8 3, .int .i64 0, .int .u64 0, .string ⟨#[]⟩], .int .i64 (-1)]) ∧ Below w.heap.size w w' := by
  have hp : (0 : Int) < (s.size : Int) := by omega
  have hp1 : ¬ (s.size : Int) < 9 := by omega
  have hp9 : (9 : Int) ≤ (s.size : Int) := by omega
  have q8 : q.size = 8 := by rw [← hq, ByteArray.size_extract]; omega
  have C79 := box (fun W => refnumber_any q W q8)
  rw [hz] at C79
  have C80 := box (fun W => refback_any z W hz8)
  rw [hX] at C80
  clear hz hz8 hX
  go_enter Tryd.func59, Tryd.ntmps59
  go_wp2_with fail
  refine (C79.out _).mono ?_
  rintro e wq ⟨rfl, rfl⟩
  go_wp2_with fail
  refine (C80.out _).mono ?_
  rintro e wq ⟨rfl, rfl⟩
  go_wp2_with fail
  exact bodyPost_ret (v := .tuple #[.agg #[.int .u8 3, .int .i64 0, .int .u64 0, .string ⟨#[]⟩], .int .i64 (-1)]) (by simp [results, Tryd.results59, go_sem]) rfl ⟨rfl, below2 w _ _⟩
/-- What next tells where a text follows. -/
def TextSays (K : Nat) (q : ByteArray) (w : World) (e : Ending) (w' : World) : Prop :=
  Below w.heap.size w w' ∧ ((e = .returned (.tuple #[.agg #[.int .u8 K, .int .i64 0, .int .u64 0, .string ⟨#[]⟩], .int .i64 (-1)]) ∧ ∀ l r, q.data.toList ≠ Kl.esc l ++ 0 :: 1 :: r) ∨
    ∃ (t : ByteArray) (n : Nat), e = .returned (.tuple #[.agg #[.int .u8 K, .int .i64 0, .int .u64 0, .string t], .int .i64 (1 + n : Nat)]) ∧ t.size ≤ q.size ∧ n ≤ q.size ∧ ∀ l r, q.data.toList = Kl.esc l ++ 0 :: 1 :: r → t = ⟨l.toArray⟩ ∧ n = (Kl.esc l).length + 2)
set_option maxHeartbeats 2000000 in
theorem nextText4 (s : ByteArray) (w : World) (h0 : 0 < s.size) (hc : ∀ h : 0 < s.size, (s[0]'h).toNat = 5) (hs : s.size ≤ 65536) (q : ByteArray) (hq : s.extract 1 s.size = q) : Calls Tryd.prog 59 #[.string s] w (TextSays 4 q w) := by
  have hp : (0 : Int) < (s.size : Int) := by omega
  have hp1 : (1 : Int) ≤ (s.size : Int) := by omega
  have qs : q.size ≤ 65536 := by rw [← hq, ByteArray.size_extract]; omega
  have C81 := box (untext_any q ((w.alloc (.cells #[.int .u8 0, .int .i64 0, .int .u64 0, .string ⟨#[]⟩] 24)).alloc (.cells #[.int .u8 4, .int .i64 0, .int .u64 0, .string ⟨#[]⟩] 24)) qs)
  go_enter Tryd.func59, Tryd.ntmps59
  go_wp2_with fail
  refine C81.out.mono ?_
  rintro e w1 ⟨t, n, rfl, ht, hn, hb, hl⟩
  have B1 := box (below2' _ _ hb)
  have W0 := box (((Whole1.made w 24 #[.int .u8 0, .int .i64 0, .int .u64 0, .string ⟨#[]⟩]).alloc (.cells #[.int .u8 4, .int .i64 0, .int .u64 0, .string ⟨#[]⟩] 24)).below hb (by simp; omega))
  have W1 := (Whole1.made (w.alloc (.cells #[.int .u8 0, .int .i64 0, .int .u64 0, .string ⟨#[]⟩] 24)) 24 #[.int .u8 4, .int .i64 0, .int .u64 0, .string ⟨#[]⟩]).below hb (by simp)
  have W1' : Box (Whole1 w1 (w.heap.size + 1) 24 #[.int .u8 4, .int .i64 0, .int .u64 0, .string ⟨#[]⟩]) := box (by simpa using W1)
  have c0 : w1.cell? ⟨w.heap.size, 0, none⟩ = some (.int .u8 0) := W0.out.cell 0
  have c1 : w1.cell? ⟨w.heap.size, 1, none⟩ = some (.int .i64 0) := W0.out.cell 1
  have c2 : w1.cell? ⟨w.heap.size, 2, none⟩ = some (.int .u64 0) := W0.out.cell 2
  have c3 : w1.cell? ⟨w.heap.size, 3, none⟩ = some (.string ⟨#[]⟩) := W0.out.cell 3
  have f0 : w1.frozen? ⟨w.heap.size, 0, none⟩ = false := W0.out.frozen 0
  have f1 : w1.frozen? ⟨w.heap.size, 1, none⟩ = false := W0.out.frozen 1
  have f2 : w1.frozen? ⟨w.heap.size, 2, none⟩ = false := W0.out.frozen 2
  have f3 : w1.frozen? ⟨w.heap.size, 3, none⟩ = false := W0.out.frozen 3
  have d0 : w1.cell? ⟨w.heap.size + 1, 0, none⟩ = some (.int .u8 4) := W1'.out.cell 0
  have d1 : w1.cell? ⟨w.heap.size + 1, 1, none⟩ = some (.int .i64 0) := W1'.out.cell 1
  have d2 : w1.cell? ⟨w.heap.size + 1, 2, none⟩ = some (.int .u64 0) := W1'.out.cell 2
  have d3 : w1.cell? ⟨w.heap.size + 1, 3, none⟩ = some (.string ⟨#[]⟩) := W1'.out.cell 3
  have g3 : w1.frozen? ⟨w.heap.size + 1, 3, none⟩ = false := W1'.out.frozen 3
  have HL := box hl
  have HTS := box ht
  clear hb W1 hl ht
  rcases hn with rfl | ⟨hn2, hn3⟩
  · have NO : Box (∀ l r, q.data.toList ≠ Kl.esc l ++ 0 :: 1 :: r) := box (fun l r e => by have := (HL.out l r e).2; omega)
    clear HL
    go_wp2_with fail
    refine bodyPost_ret (v := .tuple #[.agg #[.int .u8 4, .int .i64 0, .int .u64 0, .string ⟨#[]⟩], .int .i64 (-1)]) ?_ rfl ⟨?_, .inl ⟨rfl, NO.out⟩⟩
    · simp [results, Tryd.results59, go_sem, c0, c1, c2, c3]
    · exact (((B1.out.setCell (p := ⟨w.heap.size, 0, none⟩) (Nat.le_refl _) _).setCell (p := ⟨w.heap.size, 1, none⟩) (Nat.le_refl _) _).setCell (p := ⟨w.heap.size, 2, none⟩) (Nat.le_refl _) _).setCell (p := ⟨w.heap.size, 3, none⟩) (Nat.le_refl _) _
  · obtain ⟨N, rfl⟩ : ∃ N : Nat, n = N := ⟨n.toNat, by omega⟩
    have hn0 : ¬ (N : Int) < 0 := by omega
    have FN : Box (∀ l r, q.data.toList = Kl.esc l ++ 0 :: 1 :: r → t = ⟨l.toArray⟩ ∧ N = (Kl.esc l).length + 2) := box (fun l r e => by have h := HL.out l r e; exact ⟨h.1, by omega⟩)
    have HN3 := box hn3
    clear HL
    go_wp2_with fail
    refine bodyPost_ret (v := .tuple #[.agg #[.int .u8 4, .int .i64 0, .int .u64 0, .string t], .int .i64 (1 + N : Nat)]) ?_ rfl ⟨?_, .inr ⟨t, N, rfl, HTS.out, by have := HN3.out; omega, FN.out⟩⟩
    · simp [results, Tryd.results59, go_sem, c0, c1, c2, c3]
    · exact ((((B1.out.setCell (p := ⟨w.heap.size + 1, 3, none⟩) (by show _ ≤ w.heap.size + 1; omega) _).setCell (p := ⟨w.heap.size, 0, none⟩) (Nat.le_refl _) _).setCell (p := ⟨w.heap.size, 1, none⟩) (Nat.le_refl _) _).setCell (p := ⟨w.heap.size, 2, none⟩) (Nat.le_refl _) _).setCell (p := ⟨w.heap.size, 3, none⟩) (Nat.le_refl _) _
set_option maxHeartbeats 2000000 in
theorem nextText5 (s : ByteArray) (w : World) (h0 : 0 < s.size) (hc : ∀ h : 0 < s.size, (s[0]'h).toNat = 6) (hs : s.size ≤ 65536) (q : ByteArray) (hq : s.extract 1 s.size = q) : Calls Tryd.prog 59 #[.string s] w (TextSays 5 q w) := by
  have hp : (0 : Int) < (s.size : Int) := by omega
  have hp1 : (1 : Int) ≤ (s.size : Int) := by omega
  have qs : q.size ≤ 65536 := by rw [← hq, ByteArray.size_extract]; omega
  have C81 := box (untext_any q ((w.alloc (.cells #[.int .u8 0, .int .i64 0, .int .u64 0, .string ⟨#[]⟩] 24)).alloc (.cells #[.int .u8 5, .int .i64 0, .int .u64 0, .string ⟨#[]⟩] 24)) qs)
  go_enter Tryd.func59, Tryd.ntmps59
  go_wp2_with fail
  refine C81.out.mono ?_
  rintro e w1 ⟨t, n, rfl, ht, hn, hb, hl⟩
  have B1 := box (below2' _ _ hb)
  have W0 := box (((Whole1.made w 24 #[.int .u8 0, .int .i64 0, .int .u64 0, .string ⟨#[]⟩]).alloc (.cells #[.int .u8 5, .int .i64 0, .int .u64 0, .string ⟨#[]⟩] 24)).below hb (by simp; omega))
  have W1 := (Whole1.made (w.alloc (.cells #[.int .u8 0, .int .i64 0, .int .u64 0, .string ⟨#[]⟩] 24)) 24 #[.int .u8 5, .int .i64 0, .int .u64 0, .string ⟨#[]⟩]).below hb (by simp)
  have W1' : Box (Whole1 w1 (w.heap.size + 1) 24 #[.int .u8 5, .int .i64 0, .int .u64 0, .string ⟨#[]⟩]) := box (by simpa using W1)
  have c0 : w1.cell? ⟨w.heap.size, 0, none⟩ = some (.int .u8 0) := W0.out.cell 0
  have c1 : w1.cell? ⟨w.heap.size, 1, none⟩ = some (.int .i64 0) := W0.out.cell 1
  have c2 : w1.cell? ⟨w.heap.size, 2, none⟩ = some (.int .u64 0) := W0.out.cell 2
  have c3 : w1.cell? ⟨w.heap.size, 3, none⟩ = some (.string ⟨#[]⟩) := W0.out.cell 3
  have f0 : w1.frozen? ⟨w.heap.size, 0, none⟩ = false := W0.out.frozen 0
  have f1 : w1.frozen? ⟨w.heap.size, 1, none⟩ = false := W0.out.frozen 1
  have f2 : w1.frozen? ⟨w.heap.size, 2, none⟩ = false := W0.out.frozen 2
  have f3 : w1.frozen? ⟨w.heap.size, 3, none⟩ = false := W0.out.frozen 3
  have d0 : w1.cell? ⟨w.heap.size + 1, 0, none⟩ = some (.int .u8 5) := W1'.out.cell 0
  have d1 : w1.cell? ⟨w.heap.size + 1, 1, none⟩ = some (.int .i64 0) := W1'.out.cell 1
  have d2 : w1.cell? ⟨w.heap.size + 1, 2, none⟩ = some (.int .u64 0) := W1'.out.cell 2
  have d3 : w1.cell? ⟨w.heap.size + 1, 3, none⟩ = some (.string ⟨#[]⟩) := W1'.out.cell 3
  have g3 : w1.frozen? ⟨w.heap.size + 1, 3, none⟩ = false := W1'.out.frozen 3
  have HL := box hl
  have HTS := box ht
  clear hb W1 hl ht
  rcases hn with rfl | ⟨hn2, hn3⟩
  · have NO : Box (∀ l r, q.data.toList ≠ Kl.esc l ++ 0 :: 1 :: r) := box (fun l r e => by have := (HL.out l r e).2; omega)
    clear HL
    go_wp2_with fail
    refine bodyPost_ret (v := .tuple #[.agg #[.int .u8 5, .int .i64 0, .int .u64 0, .string ⟨#[]⟩], .int .i64 (-1)]) ?_ rfl ⟨?_, .inl ⟨rfl, NO.out⟩⟩
    · simp [results, Tryd.results59, go_sem, c0, c1, c2, c3]
    · exact (((B1.out.setCell (p := ⟨w.heap.size, 0, none⟩) (Nat.le_refl _) _).setCell (p := ⟨w.heap.size, 1, none⟩) (Nat.le_refl _) _).setCell (p := ⟨w.heap.size, 2, none⟩) (Nat.le_refl _) _).setCell (p := ⟨w.heap.size, 3, none⟩) (Nat.le_refl _) _
  · obtain ⟨N, rfl⟩ : ∃ N : Nat, n = N := ⟨n.toNat, by omega⟩
    have hn0 : ¬ (N : Int) < 0 := by omega
    have FN : Box (∀ l r, q.data.toList = Kl.esc l ++ 0 :: 1 :: r → t = ⟨l.toArray⟩ ∧ N = (Kl.esc l).length + 2) := box (fun l r e => by have h := HL.out l r e; exact ⟨h.1, by omega⟩)
    have HN3 := box hn3
    clear HL
    go_wp2_with fail
    refine bodyPost_ret (v := .tuple #[.agg #[.int .u8 5, .int .i64 0, .int .u64 0, .string t], .int .i64 (1 + N : Nat)]) ?_ rfl ⟨?_, .inr ⟨t, N, rfl, HTS.out, by have := HN3.out; omega, FN.out⟩⟩
    · simp [results, Tryd.results59, go_sem, c0, c1, c2, c3]
    · exact ((((B1.out.setCell (p := ⟨w.heap.size + 1, 3, none⟩) (by show _ ≤ w.heap.size + 1; omega) _).setCell (p := ⟨w.heap.size, 0, none⟩) (Nat.le_refl _) _).setCell (p := ⟨w.heap.size, 1, none⟩) (Nat.le_refl _) _).setCell (p := ⟨w.heap.size, 2, none⟩) (Nat.le_refl _) _).setCell (p := ⟨w.heap.size, 3, none⟩) (Nat.le_refl _) _
theorem nextOther (s : ByteArray) (w : World) (N : Nat) (h0 : 0 < s.size) (hc : ∀ h : 0 < s.size, (s[0]'h).toNat = N + 1) (hN : 6 ≤ N) (hN2 : N < 255) : Calls Tryd.prog 59 #[.string s] w fun e w' => e = .returned (.tuple #[.agg #[.int .u8 N, .int .i64 0, .int .u64 0, .string ⟨#[]⟩], .int .i64 (-1)]) ∧ Below w.heap.size w w' := by
  have hp : (0 : Int) < (s.size : Int) := by omega
  have hw : IntKind.u8.wrap (N : Int) = (N : Int) := by rw [IntKind.wrap_u8]; omega
  have g0 : ((N : Int) == 0) = false := by simp; omega
  have g1 : ((N : Int) == 1) = false := by simp; omega
  have g2 : ((N : Int) == 2) = false := by simp; omega
  have g3 : ((N : Int) == 3) = false := by simp; omega
  have g4 : ((N : Int) == 4) = false := by simp; omega
  have g5 : ((N : Int) == 5) = false := by simp; omega
  have gg : (((N : Int) + 1) == 0) = false := by simp; omega
  clear hN hN2
  go_enter Tryd.func59, Tryd.ntmps59
  go_wp2_with fail
  exact bodyPost_ret (v := .tuple #[.agg #[.int .u8 N, .int .i64 0, .int .u64 0, .string ⟨#[]⟩], .int .i64 (-1)]) (by simp [results, Tryd.results59, go_sem]) rfl ⟨rfl, below2 w _ _⟩
end Go.Proofs.YtafialodjnjihaaDoor
