/- A condition on the named variables and the world's shape, both kept for the walk; the cell of bytealg.MaxLen. No condition. -/
import Derived.Test.YtafialodjnjihaaDoorLib
import Derived.Test.YtafialodjnjihaaDoorLaid
import Derived.HandedShaped
import Derived.Handed
import Derived.Shelf.Vars
namespace Go.Proofs.YtafialodjnjihaaDoor
open Go Go.RowKit Go.BigFrame
set_option maxRecDepth 100000
/-- The tables, and MaxLen's cell holds some number. -/
structure Tabs6 (w : World) : Prop where
  tabs : Tabs w
  len : ∃ m, w.cell? ⟨3, 0, none⟩ = some (.int .i64 m)
theorem Tabs6.below {w w' : World} (h : Tabs6 w) (hb : Below w.heap.size w w') : Tabs6 w' := by
  refine ⟨h.tabs.below hb, ?_⟩
  obtain ⟨m, hm⟩ := h.len
  have hl : 3 < w.heap.size := World.block_lt_of_cell? _ _ hm
  exact ⟨m, by rw [← hm]; exact hb.cell hl⟩
theorem held_both {H : Type} {enc : TypeId × Value → H} {a : Assume} {C : Checked} {os : Os} {f : FuncId} {fn : Func} {s : ChangeSpec} {conds : List PathCond} {apart fresh handsOn again : Bool} {X : World → Array Value → Prop}
    (hX : ∀ (w w' : World) (args : Array Value), w.heap = w'.heap → X w args → X w' args)
    (own : ownKnob C.prog.godebug = none) (started : os.Started) (noInit : C.prog.inits.idxOf? f = none) (hfn : C.prog.funcs[f]? = some fn)
    (witness : ∃ (w : World) (tape : Tape) (i : Input), w.os = os ∧ (w.forCall tape i).Shaped C.prog ∧ i.vars = [] ∧ Input.okWide C.prog (w.forCall tape i) .any w.heap.size f i ∧
      ((s.pre enc C.prog fn conds apart (w.forCall tape i).memory i.args ∧ X (w.forCall tape i).memory i.args) ∧ sizedMet enc C.prog fn (OpenSpec.ofChange s) apart (w.forCall tape i).memory i.args) ∧ a.holds C.prog (lone (Frame.enter C.prog f i.args .normal) [] (w.forCall tape i)))
    (law : ∀ (W : World) (base : Nat) (args : Array Value) (ds gs : List (DataW H)) (before : List MemPlace),
      (∀ (j : Nat) t v, fn.params[j]? = some t → args[j]? = some v → Value.okWide C.prog W .any base t v) →
      DataW.Whole enc C.prog fn.params.toList s.vars apart W args.toList ds gs before →
      (DataW.weightsEach C.prog (fn.params.toList ++ s.plain.varTypes C.prog) (ds ++ gs)).all (· ≤ reachBytes) = true → X W args → W.ShapedOpen C.prog →
      Calls C.prog f args W fun e W' => ∃ v, e = .returned v ∧ s.post enc C.prog fn apart fresh handsOn again W args v W') :
    ReturnsInHanded a C os f .any (fun w args => (s.pre enc C.prog fn conds apart w args ∧ X w args) ∧ sizedMet enc C.prog fn (OpenSpec.ofChange s) apart w args) (s.post enc C.prog fn apart fresh handsOn again) := by
  refine returnsInHanded_of_calls own started noInit witness fun w tape i _ shape _ ok pre _ => ?_
  obtain ⟨_, _, _, g, hg, _, _, _, _, vals⟩ := ok
  obtain rfl : g = fn := Option.some.inj (hg.symm.trans hfn)
  obtain ⟨⟨⟨ds, gs, before, whole, _⟩, x⟩, sized⟩ := pre
  refine (law (w.forCall tape i) w.heap.size i.args ds gs before vals (DataW.Whole.of_heap (w' := w.forCall tape i) (by rfl) whole) (sized.weights whole) (hX _ _ _ (by rfl) x) shape).mono ?_
  rintro e W' ⟨v, rfl, post⟩
  exact ChangeSpec.post_blind post
theorem tabs6_of {W : World} (h : Tabs W) (hs : W.ShapedOpen Tryd.prog) : Tabs6 W :=
  ⟨h, Go.Proofs.cell_of_shapedOpen_int (t := 3) (zero := #[.int .i64 0]) hs (by decide +kernel) (by kernel_rfl) rfl (by kernel_rfl) (by kernel_rfl) Tryd.underlying3⟩
end Go.Proofs.YtafialodjnjihaaDoor
