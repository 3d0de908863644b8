/- Arguments that are slices: what the walk is told of them, out of how they read. No condition. -/
import Derived.Test.YtafialodjnjihaaKit
import Derived.Test.YtafialodjnjihaaProg
import Derived.ProofKit
import Derived.SliceStrings
import Derived.Deep.Slices
import Derived.Deep.Fields
import Derived.ChangeSame
import Derived.OpenShut
namespace Go.Proofs.Ytafialodjnjihaa
open Go Go.ChangeShapes Go.WideShapes Go.RowKit Go.Deep
set_option linter.unusedVariables false

/-- A slice of texts: where it has an element, it leads to a row of cells that hold them. -/
def Strs (w : World) (a : Option Addr) (n : Nat) (ss : List ByteArray) : Prop :=
  ss.length = n ∧ (∀ s ∈ ss, s.size ≤ maxLen) ∧ n ≤ maxLen ∧
    (0 < n → ∃ b off, a = some ⟨b, off, none⟩ ∧ b < w.heap.size ∧ ∀ i, i < n → w.cell? ⟨b, off + i, none⟩ = some (.string (ss.getD i ByteArray.empty)))

/-- A slice of bytes, likewise. -/
def Octets (w : World) (a : Option Addr) (n : Nat) (zs : List UInt8) : Prop :=
  zs.length = n ∧ n ≤ maxLen ∧ (0 < n → ∃ b off, a = some ⟨b, off, none⟩ ∧ b < w.heap.size ∧ ∀ i, i < n → w.cell? ⟨b, off + i, none⟩ = some (.int .u8 (zs.getD i 0).toNat))

/-- A record of a topic. -/
structure Rc where
  off : Nat
  seq : Nat
  text : ByteArray
def Rc.cells (r : Rc) : List Value := [.int .u64 r.off, .int .u64 r.seq, .string r.text]
def Rc.zero : Rc := ⟨0, 0, ByteArray.empty⟩
/-- A slice of records, likewise: three cells each. -/
def Recs (w : World) (a : Option Addr) (n : Nat) (rs : List Rc) : Prop :=
  rs.length = n ∧ n ≤ maxLen ∧ (∀ r ∈ rs, r.off < 18446744073709551616 ∧ r.seq < 18446744073709551616 ∧ r.text.size ≤ maxLen) ∧
    (0 < n → ∃ b off, a = some ⟨b, off, none⟩ ∧ b < w.heap.size ∧ ∀ i, i < n → ∀ j u, (rs.getD i Rc.zero).cells[j]? = some u → w.cell? ⟨b, off + i * 3 + j, none⟩ = some u)

theorem cell_lt {w : World} {a : Addr} {v : Value} (h : w.cell? a = some v) : a.block < w.heap.size := by
  rcases Nat.lt_or_ge a.block w.heap.size with hlt | hge
  · exact hlt
  · unfold World.cell? at h
    rw [Array.getElem?_eq_none hge] at h; cases h
theorem add_at (b off i : Nat) : (⟨b, off, none⟩ : Addr).add i = ⟨b, off + i, none⟩ := by unfold Addr.add; split <;> simp_all

section
variable {H : Type} {enc : TypeId × Value → H} {w : World} {a : Option Addr} {n c : Nat} {d : DataW H} {p : List MemPlace}

theorem strs_of (h : DataW.Trod enc Try.prog w 0 (fun _ => true) true 23 (.slice a n c) d p) : ∃ ss, Strs w a n ss := by
  obtain ⟨fuel, hf⟩ := h
  rcases open_strings Try.underlying23 Try.underlying9 (by kernel_rfl) hf with ⟨hcs, _⟩ | ⟨x, l, cc, ss, hcs, _, hl, hm, hz, hx, hcell, hws⟩
  · simp [Value.cells] at hcs
    obtain ⟨rfl, rfl, rfl⟩ := hcs
    exact ⟨[], rfl, by simp, Nat.zero_le _, fun h => absurd h (by omega)⟩
  · simp [Value.cells] at hcs
    obtain ⟨rfl, rfl, rfl⟩ := hcs
    simp only [if_true] at hz
    refine ⟨ss.take n, by simp; omega, fun s hs => hws s (List.mem_of_mem_take hs), Nat.le_trans hl hm, fun h0 => ?_⟩
    obtain ⟨b, off, spot⟩ := x
    have hc0 := hcell 0 (by omega)
    have hsp : spot = none := by simpa [Addr.add] using World.cell?_spot hc0
    subst hsp
    refine ⟨b, off, rfl, ?_, fun i hi => ?_⟩
    · rw [add_at] at hc0; exact cell_lt hc0
    · have := hcell i (by omega)
      rw [add_at] at this
      rw [this]
      simp [List.getD, hi]

theorem octets_of (h : DataW.Trod enc Try.prog w 0 (fun _ => true) true 24 (.slice a n c) d p) : ∃ zs, Octets w a n zs := by
  obtain ⟨fuel, hf⟩ := h
  rcases open_ints Try.underlying24 Try.underlying5 (by kernel_rfl) hf with ⟨hcs, _⟩ | ⟨x, l, cc, zs, hcs, _, hl, hm, hz, hx, hcell, hws⟩
  · simp [Value.cells] at hcs
    obtain ⟨rfl, rfl, rfl⟩ := hcs
    exact ⟨[], rfl, Nat.zero_le _, fun h => absurd h (by omega)⟩
  · simp [Value.cells] at hcs
    obtain ⟨rfl, rfl, rfl⟩ := hcs
    simp only [if_true] at hz
    refine ⟨(zs.take n).map fun z => UInt8.ofNat z.toNat, by simp; omega, Nat.le_trans hl hm, fun h0 => ?_⟩
    obtain ⟨b, off, spot⟩ := x
    have hc0 := hcell 0 (by omega)
    have hsp : spot = none := by simpa [Addr.add] using World.cell?_spot hc0
    subst hsp
    refine ⟨b, off, rfl, ?_, fun i hi => ?_⟩
    · rw [add_at] at hc0; exact cell_lt hc0
    · have := hcell i (by omega)
      rw [add_at] at this
      rw [this]
      have hil : i < zs.length := by omega
      have hb := bounds_u8 (hws zs[i] (List.getElem_mem hil))
      have e : (((UInt8.ofNat zs[i].toNat).toNat : Nat) : Int) = zs[i] := by
        rw [UInt8.toNat_ofNat', show (2 : Nat) ^ 8 = 256 from rfl]; omega
      have g1 : zs.getD i 0 = zs[i] := by simp [List.getD, hil]
      have g2 : ((zs.take n).map fun z => UInt8.ofNat z.toNat).getD i 0 = UInt8.ofNat zs[i].toNat := by
        simp [List.getD, hi, hil]
      rw [g1, g2, e]

set_option maxRecDepth 100000 in
theorem recs_of (h : DataW.Trod enc Try.prog w 0 (fun _ => true) true 31 (.slice a n c) d p) : ∃ rs, Recs w a n rs := by
  obtain ⟨fuel, hf⟩ := h
  rcases open_slice Try.underlying31 hf with ⟨hcs, _⟩ | ⟨x, l, cc, m, n', D, Pl, hcs, hb, hl, hm, hmm, hx, hi⟩
  · simp [Value.cells] at hcs
    obtain ⟨rfl, rfl, rfl⟩ := hcs
    exact ⟨[], rfl, Nat.zero_le _, by simp, fun h => absurd h (by omega)⟩
  · simp [Value.cells] at hcs
    obtain ⟨rfl, rfl, rfl⟩ := hcs
    simp only [if_true] at hmm
    have hC : Try.prog.cellsOf 33 = 3 := by kernel_rfl
    have each : ∀ i, i < n → ∃ r : Rc, (r.off < 18446744073709551616 ∧ r.seq < 18446744073709551616 ∧ r.text.size ≤ maxLen) ∧ ∀ j u, r.cells[j]? = some u → w.cell? (x.add (i * 3 + j)) = some u := by
      intro i hin
      obtain ⟨cs', hc, ht⟩ := hi i (by omega)
      rw [hC] at hc
      obtain ⟨ys, q, hq, hy, hlen, hyl, hfl⟩ := DataW.trod_struct Try.underlying33 ht
      obtain ⟨_, hcl, hat⟩ := World.cells?_some hc
      have hcl3 : cs'.length = 3 := hcl
      match cs', hcl3 with
      | [u0, u1, u2], _ =>
        have o30 : Try.prog.cellsOf 30 = 1 := by kernel_rfl
        have o9 : Try.prog.cellsOf 9 = 1 := by kernel_rfl
        have f0 : DataW.trod enc Try.prog w 0 (fun _ => true) true q 30 (([u0, u1, u2].drop 0).take (Try.prog.cellsOf 30)) = ys[0]? := hfl 0 _ rfl
        have f1 : DataW.trod enc Try.prog w 0 (fun _ => true) true q 30 (([u0, u1, u2].drop 1).take (Try.prog.cellsOf 30)) = ys[1]? := hfl 1 _ rfl
        have f2 : DataW.trod enc Try.prog w 0 (fun _ => true) true q 9 (([u0, u1, u2].drop 2).take (Try.prog.cellsOf 9)) = ys[2]? := hfl 2 _ rfl
        rw [o30] at f0 f1
        rw [o9] at f2
        have y3 : ys.length = 3 := hyl
        match ys, y3 with
        | [z0, z1, z2], _ =>
          have f0' : DataW.trod enc Try.prog w 0 (fun _ => true) true q 30 [u0] = some z0 := f0
          have f1' : DataW.trod enc Try.prog w 0 (fun _ => true) true q 30 [u1] = some z1 := f1
          have f2' : DataW.trod enc Try.prog w 0 (fun _ => true) true q 9 [u2] = some z2 := f2
          obtain ⟨p0, e0, _, w0⟩ := DataW.trod_int Try.underlying30 f0'
          obtain ⟨p1, e1, _, w1⟩ := DataW.trod_int Try.underlying30 f1'
          obtain ⟨p2, e2, _, w2⟩ := DataW.trod_string Try.underlying9 f2'
          simp only [List.cons.injEq, and_true] at e0 e1 e2
          subst e0 e1 e2
          have b0 := bounds_u64 w0
          have b1 := bounds_u64 w1
          refine ⟨⟨p0.toNat, p1.toNat, p2⟩, ⟨by show p0.toNat < _; omega, by show p1.toNat < _; omega, w2⟩, fun j u hj => ?_⟩
          have hat' : ∀ j, j < 3 → w.cell? (x.add (i * 3 + j)) = [Value.int .u64 p0, .int .u64 p1, .string p2][j]? := fun j h3 => by
            rw [← Go.Deep.add_add]; exact hat j h3
          have n0 : ((p0.toNat : Nat) : Int) = p0 := by omega
          have n1 : ((p1.toNat : Nat) : Int) = p1 := by omega
          match j, hj with
          | 0, hj => simp [Rc.cells] at hj; rw [hat' 0 (by omega), ← hj]; simp; omega
          | 1, hj => simp [Rc.cells] at hj; rw [hat' 1 (by omega), ← hj]; simp; omega
          | 2, hj => simp [Rc.cells] at hj; rw [hat' 2 (by omega), ← hj]; rfl
    haveI : Inhabited Rc := ⟨Rc.zero⟩
    obtain ⟨f, hf⟩ := choose_lt (α := Rc) (p := fun i r => (r.off < 18446744073709551616 ∧ r.seq < 18446744073709551616 ∧ r.text.size ≤ maxLen) ∧ ∀ j u, r.cells[j]? = some u → w.cell? (x.add (i * 3 + j)) = some u) each
    refine ⟨(List.range n).map f, by simp, Nat.le_trans hl hm, ?_, fun h0 => ?_⟩
    · intro r hr
      obtain ⟨i, hi, rfl⟩ := List.mem_map.1 hr
      exact (hf i (List.mem_range.1 hi)).1
    · obtain ⟨b, off, spot⟩ := x
      have hc0 := (hf 0 h0).2 0 _ rfl
      have hsp : spot = none := by simpa [Addr.add] using World.cell?_spot hc0
      subst hsp
      refine ⟨b, off, rfl, ?_, fun i hi j u hj => ?_⟩
      · rw [add_at] at hc0; exact cell_lt hc0
      · have e : ((List.range n).map f).getD i Rc.zero = f i := by simp [List.getD, hi]
        rw [e] at hj
        have := (hf i hi).2 j u hj
        rw [add_at, ← Nat.add_assoc] at this
        exact this
end
end Go.Proofs.Ytafialodjnjihaa
