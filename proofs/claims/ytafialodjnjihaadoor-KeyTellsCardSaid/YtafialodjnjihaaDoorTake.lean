/- key.Get's three closures: take, number, text. Conditions: the two captured variables lie in blocks of their own; MaxLen's cell holds a number. -/
import Derived.Test.YtafialodjnjihaaDoorAfter
import Derived.Test.YtafialodjnjihaaDoorKeyRow
namespace Go.Proofs.YtafialodjnjihaaDoor
open Go Go.RowKit Go.BigFrame
set_option maxRecDepth 100000
set_option linter.unusedVariables false

/-- Nothing was turned but the blocks R and D, and what is new. -/
structure Turn (R D : Nat) (w w' : World) : Prop where
  os : w'.os = w.os
  tape : w'.tape = w.tape
  output : w'.output = w.output
  size : w.heap.size ≤ w'.heap.size
  block : ∀ k, k < w.heap.size → k ≠ R → k ≠ D → w'.heap[k]? = w.heap[k]?
section
variable {R D : Nat} {w w' w2 : World}
theorem Turn.refl (R D : Nat) (w : World) : Turn R D w w := ⟨rfl, rfl, rfl, Nat.le_refl _, fun _ _ _ _ => rfl⟩
theorem Turn.trans (h : Turn R D w w') (h2 : Turn R D w' w2) : Turn R D w w2 :=
  ⟨h2.os.trans h.os, h2.tape.trans h.tape, h2.output.trans h.output, Nat.le_trans h.size h2.size, fun k hk a b => (h2.block k (Nat.lt_of_lt_of_le hk h.size) a b).trans (h.block k hk a b)⟩
theorem Turn.of_below (h : Below w.heap.size w w') : Turn R D w w' := ⟨h.os, h.tape, h.output, h.size, fun k hk _ _ => h.block k hk⟩
theorem Turn.setR (h : Turn R D w w') (u : Value) : Turn R D w (w'.setCell ⟨R, 0, none⟩ u) :=
  ⟨h.os, h.tape, h.output, by simpa [World.setCell] using h.size, fun k hk a b => (Below.heap_setCell w' _ u k a).trans (h.block k hk a b)⟩
theorem Turn.setD (h : Turn R D w w') (u : Value) : Turn R D w (w'.setCell ⟨D, 0, none⟩ u) :=
  ⟨h.os, h.tape, h.output, by simpa [World.setCell] using h.size, fun k hk a b => (Below.heap_setCell w' _ u k b).trans (h.block k hk a b)⟩
theorem Turn.below (h : Turn R D w w') {B : Nat} (h1 : B ≤ R) (h2 : B ≤ D) (h3 : B ≤ w.heap.size) : Below B w w' :=
  ⟨h.os, h.tape, h.output, h.size, fun k hk => h.block k (by omega) (by omega) (by omega)⟩
theorem Turn.whole (h : Turn R D w w') {g : Nat} {t : TypeId} {cs : Array Value} (hg : Whole1 w g t cs) (a : g ≠ R) (b : g ≠ D) : Whole1 w' g t cs := (h.block g hg.lt a b).trans hg
theorem Turn.own (h : Turn R D w w') {base size n : Nat} {e : TypeId} {v : Value} {xs : List Value} (ho : w.ownsRow base e size v n xs) (a : v.ownBlock ≠ some R) (b : v.ownBlock ≠ some D) : w'.ownsRow base e size v n xs := by
  refine ⟨ho.1, ?_⟩
  rcases ho.2 with hn | ⟨g, cap, cur, rfl, hb, hgg, rest⟩
  · exact .inl hn
  · refine .inr ⟨g, cap, cur, rfl, hb, ?_, rest⟩
    rw [h.block g (Array.getElem?_eq_some_iff.1 hgg).1 (by rintro rfl; exact a (by simp [Value.ownBlock])) (by rintro rfl; exact b (by simp [Value.ownBlock]))]
    exact hgg
end
def zeroS (n : Nat) : ByteArray := ⟨(List.replicate n (0 : UInt8)).toArray⟩
theorem repeat_zero (n : Nat) (w : World) (hn : n ≤ 8) : Calls Tryd.prog 54 #[.string ⟨#[0]⟩, .int .i64 n] w fun e w' => e = .returned (.string (zeroS n)) ∧ Below w.heap.size w w' := by
  have h := repeat_any ⟨#[0]⟩ n w (by omega) (by show 1 * n ≤ _; omega)
  rw [show (⟨#[0]⟩ : ByteArray).data.toList = List.replicate 1 (0 : UInt8) from rfl, Lib.repeatL_replicate, Nat.mul_one] at h
  exact h
theorem take_ok (n : Nat) (t : ByteArray) (b : Bool) (R D : Nat) (w : World) (hR : Whole1 w R 9 #[.string t]) (hD : Whole1 w D 4 #[.bool b]) (hRD : R ≠ D) (hn : n ≤ t.size) :
    Calls Tryd.prog 53 #[.int .i64 n, .pointer (some ⟨R, 0, none⟩), .pointer (some ⟨D, 0, none⟩)] w fun e w' => e = .returned (.string (t.extract 0 n)) ∧ Whole1 w' R 9 #[.string (t.extract n t.size)] ∧ Whole1 w' D 4 #[.bool b] ∧ Turn R D w w' := by
  have c0 : w.cell? ⟨R, 0, none⟩ = some (.string t) := hR.cell 0
  have f0 := hR.frozen 0
  have HR := box hR
  have HD := box hD
  have hnI : (n : Int) ≤ (t.size : Int) := by omega
  clear hR hD
  go_enter Tryd.func53, Tryd.ntmps53
  go_wp2_with fail
  go_ret
  exact ⟨rfl, (HR.out.put 0 _).to rfl, HD.out.other (fun e => hRD e.symm) _, (Turn.refl R D w).setR _⟩
theorem take_no (n : Nat) (t : ByteArray) (b : Bool) (R D : Nat) (w : World) (hR : Whole1 w R 9 #[.string t]) (hD : Whole1 w D 4 #[.bool b]) (hRD : R ≠ D) (hn : t.size < n) (h8 : n ≤ 8) :
    Calls Tryd.prog 53 #[.int .i64 n, .pointer (some ⟨R, 0, none⟩), .pointer (some ⟨D, 0, none⟩)] w fun e w' => e = .returned (.string (zeroS n)) ∧ Whole1 w' R 9 #[.string t] ∧ Whole1 w' D 4 #[.bool true] ∧ Turn R D w w' := by
  have c0 : w.cell? ⟨R, 0, none⟩ = some (.string t) := hR.cell 0
  have d0 : w.cell? ⟨D, 0, none⟩ = some (.bool b) := hD.cell 0
  have f0 := hD.frozen 0
  have HR := box hR
  have HD := box hD
  have hnI : ¬ (n : Int) ≤ (t.size : Int) := by omega
  have C := box (fun W => repeat_zero n W h8)
  clear hR hD
  go_enter Tryd.func53, Tryd.ntmps53
  go_wp2_with fail
  refine (C.out _).mono ?_
  rintro e w1 ⟨rfl, hb⟩
  have KR := box ((HR.out.other (p := ⟨D, 0, none⟩) hRD (.bool true)).below hb (HR.out.other (p := ⟨D, 0, none⟩) hRD (.bool true)).lt)
  have KD := box (((HD.out.put 0 (.bool true)).to (cs' := #[.bool true]) rfl).below hb ((HD.out.put 0 (.bool true)).to (cs' := #[.bool true]) rfl).lt)
  have KT := box (((Turn.refl R D w).setD (.bool true)).trans (Turn.of_below hb))
  clear hb
  go_wp2_with fail
  go_ret
  exact ⟨rfl, KR.out, KD.out, KT.out⟩
end Go.Proofs.YtafialodjnjihaaDoor
