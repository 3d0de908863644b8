/- The worlds that a world can become without a turn below its own heap's end: the class for a drawn region whose callees make memory. No condition. -/
import Derived.Test.YtafialodjnjihaaDoorKit
import Derived.BigQuiet
namespace Go.Proofs.YtafialodjnjihaaDoor
open Go Go.RowKit
def Later (w0 : World) : Type := {w' : World // Below w0.heap.size w0 w'}
def Later.world {w0 : World} (x : Later w0) : World := x.1
theorem Later.below {w0 : World} (x : Later w0) : Below w0.heap.size w0 x.world := x.2
theorem Later.of {w0 w' : World} (h : Below w0.heap.size w0 w') : ∃ m : Later w0, w' = m.world := ⟨⟨w', h⟩, rfl⟩
theorem Later.step {w0 w' : World} (x : Later w0) (hb : Below x.world.heap.size x.world w') : ∃ m : Later w0, w' = m.world :=
  Later.of (Below.grown x.below (Only.below hb none) x.below.size (by simp))
instance (w0 : World) : Nonempty (Later w0) := ⟨⟨w0, Below.refl _ _⟩⟩
theorem Calls.later {P : Program} {f : FuncId} {args : Array Value} {w0 : World} {x : Later w0} {v : Value} (h : Calls P f args x.world fun e w' => e = .returned v ∧ Below x.world.heap.size x.world w') :
    Calls P f args x.world fun e w' => e = .returned v ∧ ∃ m : Later w0, w' = m.world := h.mono fun _ _ ⟨a, b⟩ => ⟨a, x.step b⟩
theorem Calls.laterSame {P : Program} {f : FuncId} {args : Array Value} {w0 : World} {x : Later w0} {v : Value} (h : Calls P f args x.world fun e w' => e = .returned v ∧ x.world = w') :
    Calls P f args x.world fun e w' => e = .returned v ∧ ∃ m : Later w0, w' = m.world := h.mono fun _ _ ⟨a, b⟩ => ⟨a, x, b.symm⟩
theorem wp_region_later (w0 : World) {P : Program} {id : Nat} {Q : Exit → Act → World → Prop} {a : Act} {w : World} {l : List Oper} (hm : P.follows .mixedOrders = true) (hB : Region.lexB .any l.toArray = true) (h0 : Below w0.heap.size w0 w)
    (h : wpQuiet P l.toArray (fun w' => ∃ x : Later w0, w' = x.world) (fun a' => ∀ w', (∃ x : Later w0, w' = x.world) → Q .normal a' w') l a) : (Code.region id l.toArray true).wp P Q a w :=
  wp_region_quiet (C := fun w' => ∃ x : Later w0, w' = x.world) hm hB (Later.of (Below.drew h0)) (by simpa using h)
end Go.Proofs.YtafialodjnjihaaDoor
