/- A slice of texts that came in: none is longer than a reading bears. No condition. -/
import Derived.Test.YtafialodjnjihaaAlive07
import Derived.SizedLaws
namespace Go.Proofs.Ytafialodjnjihaa
open Go Go.ChangeShapes Go.WideShapes Go.RowKit Go.Deep
set_option maxRecDepth 100000
set_option linter.unusedVariables false

section
variable {H : Type} {enc : TypeId × Value → H} {w : World} {a : Option Addr} {n c : Nat} {d : DataW H} {p : List MemPlace}
theorem strs_mem {s : ByteArray} {ss : List ByteArray} (h : s ∈ ss) : s.size ∈ DataW.weightsAll (H := H) Try.prog 9 (strs ss) := by
  induction ss with
  | nil => cases h
  | cons t ss ih =>
    rcases List.mem_cons.1 h with rfl | h
    · simp [strs, DataW.weightsAll, DataW.weights]
    · have := ih h
      simp only [strs, List.map_cons, DataW.weightsAll, List.mem_append] at this ⊢
      exact .inr this
/-- A slice of texts that came in: none is longer than a reading bears. -/
theorem strs_sized (h : DataW.Trod enc Try.prog w 0 (fun _ => true) true 23 (.slice a n c) d p) {ts : List TypeId} {ds : List (DataW H)} {j : Nat}
    (hz : (DataW.weightsEach Try.prog ts ds).all (· ≤ reachBytes) = true) (ht : ts[j]? = some 23) (hd : ds[j]? = some d) :
    ∃ ss, Strs w a n ss ∧ (∀ s ∈ ss, s.size ≤ 140737488355328) ∧ n ≤ c ∧ c ≤ maxLen ∧ (a = none → c = 0) := by
  obtain ⟨fuel, hf⟩ := h
  have hw := DataW.weights_mem_each (P := Try.prog) ht hd
  rcases open_strings Try.underlying23 Try.underlying9 (by kernel_rfl) hf with ⟨hcs, _⟩ | ⟨x, l, cc, ss, hcs, _, hl, hm, hz1, hx, hcell, hws⟩
  · simp [Value.cells] at hcs
    obtain ⟨rfl, rfl, rfl⟩ := hcs
    exact ⟨[], ⟨rfl, by simp, Nat.zero_le _, fun h => absurd h (by omega)⟩, by simp, Nat.le_refl _, Nat.zero_le _, fun _ => rfl⟩
  · simp [Value.cells] at hcs
    obtain ⟨rfl, rfl, rfl⟩ := hcs
    simp only [if_true] at hz1
    have hd1 : d = .slice (strs (ss.take n)) (strs (ss.drop n)) := (Prod.mk.inj hx).1
    subst hd1
    refine ⟨ss.take n, ⟨by simp; omega, fun s hs => hws s (List.mem_of_mem_take hs), Nat.le_trans hl hm, fun h0 => ?_⟩, fun s hs => ?_, hl, hm, fun h => by cases h⟩
    · obtain ⟨b, off, spot⟩ := x
      have hc0 := hcell 0 (by omega)
      have hsp : spot = none := by simpa [Addr.add] using World.cell?_spot hc0
      subst hsp
      refine ⟨b, off, rfl, ?_, fun i hi => ?_⟩
      · rw [add_at] at hc0; exact cell_lt hc0
      · have h1 := hcell i (by omega)
        rw [add_at] at h1
        rw [h1]
        simp [List.getElem?_take_of_lt hi]
    · have h1 : s.size ∈ (DataW.slice (strs (ss.take n)) (strs (ss.drop n)) : DataW H).weights Try.prog 23 := by
        simp only [DataW.weights, Try.underlying23, List.mem_cons, List.mem_append]
        exact .inr (.inl (strs_mem hs))
      have h2 := List.all_eq_true.1 hz _ (hw _ h1)
      have h3 : s.size ≤ reachBytes := by simpa using h2
      have := reachBytes_lt
      omega
end
end Go.Proofs.Ytafialodjnjihaa
