/- A value that came in, by its four parts. No condition. -/
import Derived.Test.YtafialodjnjihaaDoorVals
namespace Go.Proofs.YtafialodjnjihaaDoor
open Go Go.ChangeShapes Go.WideShapes Go.RowKit Go.Joins
set_option maxRecDepth 100000
section
variable {H : Type} {enc : TypeId × Value → H} {w : World} {base : Nat} {spare : Nat → Bool} {held : Bool}
theorem open_val {r : Reach} {b0 : Nat} {v : Value} {d : DataW H} {ps : List MemPlace} (hval : Value.okWide Tryd.prog w r b0 24 v) (hd : DataW.Trod enc Tryd.prog w base spare held 24 v d ps) : ∃ x : Val, x.Ok ∧ v = x.v := by
  obtain ⟨c0, c1, c2, c3, y0, y1, y2, y3, m, rfl, -, -, g0, g1, g2, g3⟩ := open_agg4 Tryd.underlying24 (by kernel_rfl) (show Tryd.prog.cellsOf 24 = 4 by kernel_rfl) hval hd
  obtain ⟨o0, e0, -, wo0⟩ := DataW.trod_int Tryd.underlying5 g0
  obtain ⟨o1, e1, -, wo1⟩ := DataW.trod_int Tryd.underlying2 g1
  obtain ⟨o2, e2, -, wo2⟩ := DataW.trod_int Tryd.underlying22 g2
  obtain ⟨o3, e3, -, wo3⟩ := DataW.trod_string Tryd.underlying9 g3
  simp only [List.cons.injEq, and_true] at e0 e1 e2 e3
  subst e0 e1 e2 e3
  have b0 := bounds_u8 wo0
  have b1 := bounds_i64 wo1
  have b2 := bounds_u64 wo2
  have n0 : ((o0.toNat : Nat) : Int) = o0 := by omega
  have n2 : ((o2.toNat : Nat) : Int) = o2 := by omega
  refine ⟨⟨o0.toNat, o1, o2.toNat, o3⟩, ⟨by show o0.toNat < _; omega, ⟨by show _ ≤ o1; omega, by show o1 < _; omega⟩, by show o2.toNat < _; omega, wo3⟩, ?_⟩
  unfold Val.v; dsimp only; rw [n0, n2]
end
end Go.Proofs.YtafialodjnjihaaDoor
