/- Two values in a walk: are they the same? No condition. -/
import Derived.Test.YtafialodjnjihaaDoorRowLess
import Derived.Test.YtafialodjnjihaaDoorSame
import Derived.Test.YtafialodjnjihaaDoorAlive04
namespace Go.Proofs.YtafialodjnjihaaDoor
open Go Go.RowKit Go.BigFrame
set_option maxRecDepth 100000
set_option linter.unusedVariables false
theorem eq_run (k k' : Nat) (i i' : Int) (r r' : Nat) (t t' : ByteArray) (w : World) :
    (Op.equalIn 10000 24 (.agg #[.int .u8 k, .int .i64 i, .int .u64 r, .string t]) (.agg #[.int .u8 k', .int .i64 i', .int .u64 r', .string t'])).run Tryd.prog w = .ok (eqV ⟨k, i, r, t⟩ ⟨k', i', r', t'⟩) w := by
  go_simp
  by_cases d0 : k = k'
  · subst d0
    by_cases d1 : i = i'
    · subst d1
      by_cases d2 : r = r'
      · subst d2
        by_cases d3 : t = t'
        · subst d3; simp [eqV]
        · have h : ¬ t.toList = t'.toList := fun e => d3 (by
            rw [Go.ByteArray.toList_eq, Go.ByteArray.toList_eq] at e
            exact ByteArray.ext (Array.toList_inj.1 e))
          simp [eqV, d3, h]
      · have h : ¬ (r : Int) = (r' : Int) := by omega
        simp [eqV, d2]
        intro e; exact absurd e h
    · simp [eqV, d1]
  · have h : ¬ (k : Int) = (k' : Int) := by omega
    simp [eqV, d0]
    intro e; exact absurd e h
end Go.Proofs.YtafialodjnjihaaDoor
