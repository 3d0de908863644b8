/- Slices of values: what a walk is told of them, out of how they read. No condition. -/
import Derived.Test.YtafialodjnjihaaDoorCheck
import Derived.ProofKit
import Derived.SliceStrings
import Derived.Deep.Slices
import Derived.Deep.Fields
import Derived.ChangeSame
import Derived.OpenShut
import Derived.SizedLaws
import Derived.Lib.SmallJoins
namespace Go.Proofs.YtafialodjnjihaaDoor
open Go Go.ChangeShapes Go.WideShapes Go.RowKit Go.Deep Go.Joins
open Go.ChangeMaps (open_string)
set_option maxRecDepth 100000
set_option linter.unusedVariables false

theorem add_at (b off i : Nat) : (⟨b, off, none⟩ : Addr).add i = ⟨b, off + i, none⟩ := by unfold Addr.add; split <;> simp_all
theorem cell_lt {w : World} {a : Addr} {v : Value} (h : w.cell? a = some v) : a.block < w.heap.size := by
  rcases Nat.lt_or_ge a.block w.heap.size with hlt | hge
  · exact hlt
  · unfold World.cell? at h
    rw [Array.getElem?_eq_none hge] at h; cases h
def Val.cells (x : Val) : List Value := [.int .u8 x.kind, .int .i64 x.int, .int .u64 x.real, .string x.text]
def Val.zero : Val := ⟨0, 0, 0, ByteArray.empty⟩
/-- A slice of values: where it has an element, it leads to a row of cells, four each. -/
def Vals (w : World) (a : Option Addr) (n : Nat) (xs : List Val) : Prop :=
  xs.length = n ∧ n ≤ 140737488355328 ∧ (∀ x ∈ xs, x.Ok ∧ x.text.size ≤ 140737488355328) ∧
    (0 < n → ∃ b off, a = some ⟨b, off, none⟩ ∧ b < w.heap.size ∧ ∀ i, i < n → ∀ j u, (xs.getD i Val.zero).cells[j]? = some u → w.cell? ⟨b, off + i * 4 + j, none⟩ = some u)

section
variable {H : Type} {enc : TypeId × Value → H} {w : World} {base : Nat} {spare : Nat → Bool} {held : Bool} {a : Option Addr} {n c : Nat} {d : DataW H} {p : List MemPlace}
/-- Four cells that read as a value. -/
theorem val_cells {fuel : Nat} {cs : List Value} {x : DataW H × List MemPlace} (h : DataW.trod enc Tryd.prog w base spare held fuel 24 cs = some x) :
    ∃ v : Val, v.Ok ∧ cs = v.cells ∧ x.1 = .agg [.lit (.int .u8 v.kind), .lit (.int .i64 v.int), .lit (.int .u64 v.real), .lit (.string v.text.data.toList)] := by
  obtain ⟨ys, q, hq, hy, hlen, hyl, hfl⟩ := DataW.trod_struct Tryd.underlying24 h
  have hC : Tryd.prog.cellsOf 24 = 4 := by kernel_rfl
  rw [hC] at hlen
  match cs, hlen with
  | [u0, u1, u2, u3], _ =>
    have o5 : Tryd.prog.cellsOf 5 = 1 := by kernel_rfl
    have o2 : Tryd.prog.cellsOf 2 = 1 := by kernel_rfl
    have o22 : Tryd.prog.cellsOf 22 = 1 := by kernel_rfl
    have o9 : Tryd.prog.cellsOf 9 = 1 := by kernel_rfl
    have f0 : DataW.trod enc Tryd.prog w base spare held q 5 (([u0, u1, u2, u3].drop 0).take (Tryd.prog.cellsOf 5)) = ys[0]? := hfl 0 _ rfl
    have f1 : DataW.trod enc Tryd.prog w base spare held q 2 (([u0, u1, u2, u3].drop 1).take (Tryd.prog.cellsOf 2)) = ys[1]? := hfl 1 _ rfl
    have f2 : DataW.trod enc Tryd.prog w base spare held q 22 (([u0, u1, u2, u3].drop 2).take (Tryd.prog.cellsOf 22)) = ys[2]? := hfl 2 _ rfl
    have f3 : DataW.trod enc Tryd.prog w base spare held q 9 (([u0, u1, u2, u3].drop 3).take (Tryd.prog.cellsOf 9)) = ys[3]? := hfl 3 _ rfl
    rw [o5] at f0
    rw [o2] at f1
    rw [o22] at f2
    rw [o9] at f3
    have y4 : ys.length = 4 := hyl
    match ys, y4 with
    | [z0, z1, z2, z3], _ =>
      have f0' : DataW.trod enc Tryd.prog w base spare held q 5 [u0] = some z0 := f0
      have f1' : DataW.trod enc Tryd.prog w base spare held q 2 [u1] = some z1 := f1
      have f2' : DataW.trod enc Tryd.prog w base spare held q 22 [u2] = some z2 := f2
      have f3' : DataW.trod enc Tryd.prog w base spare held q 9 [u3] = some z3 := f3
      obtain ⟨p0, e0, r0, w0⟩ := DataW.trod_int Tryd.underlying5 f0'
      obtain ⟨p1, e1, r1, w1⟩ := DataW.trod_int Tryd.underlying2 f1'
      obtain ⟨p2, e2, r2, w2⟩ := DataW.trod_int Tryd.underlying22 f2'
      obtain ⟨p3, e3, r3, w3⟩ := DataW.trod_string Tryd.underlying9 f3'
      simp only [List.cons.injEq, and_true] at e0 e1 e2 e3
      subst e0 e1 e2 e3
      have b0 := bounds_u8 w0
      have b1 := bounds_i64 w1
      have b2 := bounds_u64 w2
      have n0 : ((p0.toNat : Nat) : Int) = p0 := by omega
      have n2 : ((p2.toNat : Nat) : Int) = p2 := by omega
      refine ⟨⟨p0.toNat, p1, p2.toNat, p3⟩, ⟨by show p0.toNat < _; omega, ⟨by show _ ≤ p1; omega, by show p1 < _; omega⟩, by show p2.toNat < _; omega, w3⟩, ?_, ?_⟩
      · unfold Val.cells; dsimp only; rw [n0, n2]
      · rw [hy]; dsimp only; rw [r0, r1, r2, r3, n0, n2]; rfl
theorem weights_elem {D : Nat → DataW H} {n i : Nat} (hi : i < n) (k : Nat) (hk : k ∈ (D i).weights Tryd.prog 24) : k ∈ DataW.weightsAll Tryd.prog 24 ((List.range n).map D) := by
  have h : ∀ (l : List Nat), i ∈ l → k ∈ DataW.weightsAll Tryd.prog 24 (l.map D) := by
    intro l
    induction l with
    | nil => intro h; cases h
    | cons j l ih =>
      intro h
      simp only [List.map_cons, DataW.weightsAll, List.mem_append]
      rcases List.mem_cons.1 h with rfl | h
      · exact .inl hk
      · exact .inr (ih h)
  exact h _ (List.mem_range.2 hi)
theorem weight_text (v : Val) : v.text.size ∈ (DataW.agg [.lit (.int .u8 v.kind), .lit (.int .i64 v.int), .lit (.int .u64 v.real), .lit (.string v.text.data.toList)] : DataW H).weights Tryd.prog 24 := by
  simp [DataW.weights, Tryd.underlying24, DataW.weightsEach]

/-- A slice of values that came in. -/
theorem vals_of (h : DataW.Trod enc Tryd.prog w 0 (fun _ => true) true 25 (.slice a n c) d p) {ts : List TypeId} {ds : List (DataW H)} {j : Nat}
    (hz : (DataW.weightsEach Tryd.prog ts ds).all (· ≤ reachBytes) = true) (ht : ts[j]? = some 25) (hd : ds[j]? = some d) :
    ∃ xs, Vals w a n xs ∧ n ≤ c ∧ c ≤ maxLen ∧ (a = none → c = 0) := by
  obtain ⟨fuel, hf⟩ := h
  have hw := DataW.weights_mem_each (P := Tryd.prog) ht hd
  have hlt := reachBytes_lt
  rcases open_slice Tryd.underlying25 hf with ⟨hcs, _⟩ | ⟨x, l, cc, m, n', D, Pl, hcs, hb, hl, hm, hmm, hx, hi⟩
  · simp [Value.cells] at hcs
    obtain ⟨rfl, rfl, rfl⟩ := hcs
    exact ⟨[], ⟨rfl, Nat.zero_le _, by simp, fun h => absurd h (by omega)⟩, Nat.le_refl _, Nat.zero_le _, fun _ => rfl⟩
  · simp [Value.cells] at hcs
    obtain ⟨rfl, rfl, rfl⟩ := hcs
    simp only [if_true] at hmm
    have hC : Tryd.prog.cellsOf 24 = 4 := by kernel_rfl
    have hB : Tryd.prog.bytesOf 24 = 40 := by kernel_rfl
    have hd1 : d = .slice ((List.range n).map D) ((List.range (m - n)).map fun j => D (n + j)) := (Prod.mk.inj hx).1
    subst hd1
    have each : ∀ i, i < n → ∃ v : Val, (v.Ok ∧ v.text.size ≤ 140737488355328) ∧ ∀ j u, v.cells[j]? = some u → w.cell? (x.add (i * 4 + j)) = some u := by
      intro i hin
      obtain ⟨cs', hc, ht⟩ := hi i (by omega)
      rw [hC] at hc
      obtain ⟨v, hv, hcv, hdv⟩ := val_cells ht
      obtain ⟨_, hcl, hat⟩ := World.cells?_some hc
      refine ⟨v, ⟨hv, ?_⟩, fun j u hj => ?_⟩
      · have h1 : v.text.size ∈ (DataW.slice ((List.range n).map D) ((List.range (m - n)).map fun j => D (n + j)) : DataW H).weights Tryd.prog 25 := by
          simp only [DataW.weights, Tryd.underlying25, List.mem_cons, List.mem_append]
          refine .inr (.inl (weights_elem hin _ ?_))
          have hdv' : D i = _ := hdv
          rw [hdv']; exact weight_text v
        have h2 := List.all_eq_true.1 hz _ (hw _ h1)
        have h3 : v.text.size ≤ reachBytes := by simpa using h2
        omega
      · have hj4 : j < 4 := (List.getElem?_eq_some_iff.1 hj).1
        rw [← Go.Deep.add_add, hat j hj4, hcv]; exact hj
    have hn : n ≤ 140737488355328 := by
      have h1 : (((List.range n).map D).length + ((List.range (m - n)).map fun j => D (n + j)).length) * Tryd.prog.bytesOf 24 ∈ (DataW.slice ((List.range n).map D) ((List.range (m - n)).map fun j => D (n + j)) : DataW H).weights Tryd.prog 25 := by
        simp only [DataW.weights, Tryd.underlying25, List.mem_cons, List.mem_append]
        exact .inl trivial
      have h2 := List.all_eq_true.1 hz _ (hw _ h1)
      have h3 : (((List.range n).map D).length + ((List.range (m - n)).map fun j => D (n + j)).length) * Tryd.prog.bytesOf 24 ≤ reachBytes := by simpa using h2
      rw [hB] at h3
      simp only [List.length_map, List.length_range] at h3
      omega
    haveI : Inhabited Val := ⟨Val.zero⟩
    obtain ⟨f, hf⟩ := choose_lt (α := Val) (p := fun i v => (v.Ok ∧ v.text.size ≤ 140737488355328) ∧ ∀ j u, v.cells[j]? = some u → w.cell? (x.add (i * 4 + j)) = some u) each
    refine ⟨(List.range n).map f, ⟨by simp, hn, ?_, fun h0 => ?_⟩, hl, hm, fun h => by cases h⟩
    · intro r hr
      obtain ⟨i, hi, rfl⟩ := List.mem_map.1 hr
      exact (hf i (List.mem_range.1 hi)).1
    · obtain ⟨b, off, spot⟩ := x
      have hc0 := (hf 0 h0).2 0 _ rfl
      have hsp : spot = none := by simpa [Addr.add] using World.cell?_spot hc0
      subst hsp
      refine ⟨b, off, rfl, ?_, fun i hi j u hj => ?_⟩
      · rw [add_at] at hc0; exact cell_lt hc0
      · have e : ((List.range n).map f).getD i Val.zero = f i := by simp [hi]
        rw [e] at hj
        have := (hf i hi).2 j u hj
        rw [add_at] at this
        rw [Nat.add_assoc]; exact this
theorem vals_below {w w' : World} {n : Nat} {a : Option Addr} {l : List Val} (h : Vals w a n l) (hg : Below w.heap.size w w') : Vals w' a n l :=
  ⟨h.1, h.2.1, h.2.2.1, fun h0 => by
    obtain ⟨b, off, rfl, hb, hc⟩ := h.2.2.2 h0
    exact ⟨b, off, rfl, Nat.lt_of_lt_of_le hb hg.size, fun i hi j u hu => (hg.cell (by exact hb)).trans (hc i hi j u hu)⟩⟩
end
end Go.Proofs.YtafialodjnjihaaDoor
