/- A text that came in is within the reach. No condition. -/
import Derived.Test.YtafialodjnjihaaDoorVals
namespace Go.Proofs.YtafialodjnjihaaDoor
open Go Go.ChangeShapes Go.WideShapes Go.RowKit Go.Deep Go.Joins
theorem string_sized {H : Type} {ts : List TypeId} {ds : List (DataW H)} {d : DataW H} {s : ByteArray} (hz : (DataW.weightsEach Tryd.prog ts ds).all (· ≤ reachBytes) = true) {j : Nat} (ht : ts[j]? = some 9) (hd : ds[j]? = some d)
    (h : d = .lit (.string s.data.toList)) : s.size ≤ 140737488355328 := by
  have hw := DataW.weights_mem_each (P := Tryd.prog) ht hd
  have hlt := reachBytes_lt
  subst h
  have h1 : s.size ∈ (DataW.lit (.string s.data.toList) : DataW H).weights Tryd.prog 9 := by simp [DataW.weights]
  have h2 := List.all_eq_true.1 hz _ (hw _ h1)
  have h3 : s.size ≤ reachBytes := by simpa using h2
  omega
end Go.Proofs.YtafialodjnjihaaDoor
