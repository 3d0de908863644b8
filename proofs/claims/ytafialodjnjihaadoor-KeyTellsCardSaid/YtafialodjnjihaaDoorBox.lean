/- A fact in a box: neither simp nor 'contradiction' looks into it ('contradiction' does open Lib.hid's: a bound with a great number runs it out of its depth). No condition. -/
namespace Go.Proofs.YtafialodjnjihaaDoor
structure Box (p : Prop) : Prop where
  out : p
theorem box {p : Prop} (h : p) : Box p := ⟨h⟩
end Go.Proofs.YtafialodjnjihaaDoor
