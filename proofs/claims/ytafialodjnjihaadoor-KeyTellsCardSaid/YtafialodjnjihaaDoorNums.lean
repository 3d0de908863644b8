/- Numbers that fit their kind, as natural numbers. No condition. -/
import Derived.OpenShut
namespace Go.Proofs.YtafialodjnjihaaDoor
open Go Go.RowKit

theorem u64_nat {x : Int} (h : (Lit.int .u64 x).wf = true) : ∃ v : Nat, x = v ∧ v < 18446744073709551616 := by
  have hb := bounds_u64 h
  exact ⟨x.toNat, by omega, by omega⟩
theorem u32_nat {x : Int} (h : (Lit.int .u32 x).wf = true) : ∃ v : Nat, x = v ∧ v < 4294967296 := by
  have hb := bounds_u32 h
  exact ⟨x.toNat, by omega, by omega⟩
theorem u16_nat {x : Int} (h : (Lit.int .u16 x).wf = true) : ∃ v : Nat, x = v ∧ v < 65536 := by
  have hb := bounds_u16 h
  exact ⟨x.toNat, by omega, by omega⟩
theorem u8_nat {x : Int} (h : (Lit.int .u8 x).wf = true) : ∃ v : Nat, x = v ∧ v < 256 := by
  have hb := bounds_u8 h
  exact ⟨x.toNat, by omega, by omega⟩

end Go.Proofs.YtafialodjnjihaaDoor
