/- Small facts on worlds and blocks that the walks of this seat share: a block that is known whole, what one call may change, an argument's list of cells. No condition. -/
import Derived.WalkKit
import Derived.WalkSpells
import Derived.WalkLawsBesides
import Derived.Deep.Draws
import Derived.Lib.Hide
namespace Go.Proofs.YtafialodjnjihaaDoor
open Go Go.RowKit

/-- Block g holds just the cells cs, of element type t, none frozen. -/
def Whole1 (w : World) (g : Nat) (t : TypeId) (cs : Array Value) : Prop := w.heap[g]? = some (.cells cs t (0, 0))

section
variable {w w' : World} {g : Nat} {t : TypeId} {cs : Array Value}
theorem Whole1.lt (h : Whole1 w g t cs) : g < w.heap.size := by
  rcases Nat.lt_or_ge g w.heap.size with hlt | hge
  · exact hlt
  · unfold Whole1 at h; rw [Array.getElem?_eq_none hge] at h; cases h
theorem Whole1.cell (h : Whole1 w g t cs) (i : Nat) : w.cell? ⟨g, i, none⟩ = cs[i]? := by
  unfold Whole1 at h; simp [World.cell?, h]
theorem Whole1.frozen (h : Whole1 w g t cs) (i : Nat) : w.frozen? ⟨g, i, none⟩ = false := by
  unfold Whole1 at h; simp [World.frozen?, h]
theorem Whole1.made (w : World) (t : TypeId) (cs : Array Value) : Whole1 (w.alloc (.cells cs t)) w.heap.size t cs := by
  show (w.heap.push _)[w.heap.size]? = _
  simp
theorem Whole1.to {cs' : Array Value} (h : Whole1 w g t cs) (e : cs = cs') : Whole1 w g t cs' := e ▸ h
theorem Whole1.drewN (h : Whole1 w g t cs) (n : Nat) : Whole1 (w.drewN n) g t cs := h
theorem Whole1.drew (h : Whole1 w g t cs) : Whole1 w.drew g t cs := h
theorem Whole1.alloc (h : Whole1 w g t cs) (o : Obj) : Whole1 (w.alloc o) g t cs := (Below.heap_alloc w o g h.lt).trans h
theorem Whole1.put (h : Whole1 w g t cs) (i : Nat) (u : Value) : Whole1 (w.setCell ⟨g, i, none⟩ u) g t (cs.setIfInBounds i u) := by
  unfold Whole1 at h ⊢
  simp [World.setCell, Array.getElem?_modify, h]
theorem Whole1.other (h : Whole1 w g t cs) {p : Addr} (hp : g ≠ p.block) (u : Value) : Whole1 (w.setCell p u) g t cs := (Below.heap_setCell w p u g hp).trans h
theorem Whole1.below {B : Nat} (h : Whole1 w g t cs) (hb : Below B w w') (hg : g < B) : Whole1 w' g t cs := (hb.block g hg).trans h
theorem Whole1.grown {row : Option Nat} (h : Whole1 w g t cs) (hb : w.grownBy w' row) (hg : some g ≠ row) : Whole1 w' g t cs := (hb.block g h.lt hg).trans h
end

section
variable {a w : World} {g : Nat}
theorem Only.drewN {row : Option Nat} (h : a.grownBy w row) (n : Nat) : a.grownBy (w.drewN n) row := ⟨h.os, h.tape, h.output, h.size, h.block⟩
theorem Only.drew {row : Option Nat} (h : a.grownBy w row) : a.grownBy w.drew row := ⟨h.os, h.tape, h.output, h.size, h.block⟩
theorem Only.alloc {row : Option Nat} (h : a.grownBy w row) (o : Obj) : a.grownBy (w.alloc o) row :=
  ⟨h.os, h.tape, h.output, Nat.le_trans h.size (by simp), fun i hi hne => (Below.heap_alloc w o i (Nat.lt_of_lt_of_le hi h.size)).trans (h.block i hi hne)⟩
theorem Only.put (h : a.grownBy w (some g)) {p : Addr} (hp : p.block = g ∨ a.heap.size ≤ p.block) (u : Value) : a.grownBy (w.setCell p u) (some g) :=
  ⟨h.os, h.tape, h.output, by simpa [World.setCell] using h.size, fun i hi hne => (Below.heap_setCell w p u i (by
    rintro rfl
    rcases hp with hp | hp
    · exact hne (by rw [hp])
    · omega)).trans (h.block i hi hne)⟩
theorem Only.below (h : Below a.heap.size a w) (row : Option Nat) : a.grownBy w row := ⟨h.os, h.tape, h.output, h.size, fun i hi _ => h.block i hi⟩
theorem below_drewN {B : Nat} {a w : World} (h : Below B a w) (n : Nat) : Below B a (w.drewN n) := ⟨h.os, h.tape, h.output, h.size, h.block⟩
end

theorem own_ge {w : World} {base size n : Nat} {e : TypeId} {v : Value} {xs : List Value} (h : w.ownsRow base e size v n xs) : ∀ k, v.ownBlock = some k → base ≤ k := by
  intro k hk
  rcases h.2 with ⟨rfl, _⟩ | ⟨g, cap, cur, rfl, hg, _⟩
  · simp [Value.ownBlock] at hk
  · have : g = k := by simpa [Value.ownBlock] using hk
    omega

/-- One element appended to a row of the call's own: its cells lie in the block that was made for it. -/
theorem append_one {P : Program} (w : World) {W : World} {ops : Array Oper} {rest : List Oper} {o : Oper} {a : Act} {Q : Exit → Act → World → Prop} (hgd : o.guard = none) (s x : Operand) (t : TypeId)
    (ho : o.op = .call { callee := .builtin .append, args := #[s, x], argTypes := #[t, t] })
    (base : Nat) (e : TypeId) (i : TypeInfo) (z : Value) (size bytes : Nat) (ht : P.underlying t = some (.slice e)) (hi : P.info? e = some i) (hz : i.zero = some z)
    (hsize : i.size = size) (hby : i.bytes = bytes) (hzs : z.cells.size = size) (hsz : 0 < size)
    (v : Value) (n : Nat) (xs : List Value) (hs : a.eval s = v) (hown : w.ownsRow base e size v n xs)
    (us : List Value) (hx : a.eval x = .slice (some ⟨w.heap.size, 0, none⟩) 1 1) (hl : us.length = size) (h1 : ∀ u ∈ us, u.oneCell' = true)
    (h63 : n + 1 ≤ maxLen) (hbytes : (n + 1) * bytes ≤ 140737488355328) (hbase : base ≤ w.heap.size)
    (h : ∀ v' w', w'.ownsRow base e size v' (n + 1) (xs ++ us) → Below base w w' → w.grownBy w' v.ownBlock → wpList P ops Q rest (a.put o.dst v') w') (hW : W = w.alloc (.cells us.toArray e)) : wpList P ops Q (o :: rest) a W := by
  subst hW
  refine wpList_append_own _ hgd s x t ho base e i z size bytes ht hi hz hsize hby hzs hsz v n xs hs (hown.alloc _) ⟨w.heap.size, 0, none⟩ 1 1 us hx (by simpa using hl) ?_ h1 h63 hbytes (by simp; omega) ?_
  · intro j u hj
    have e0 : (⟨w.heap.size, 0, none⟩ : Addr).add j = ⟨w.heap.size, j, none⟩ := by unfold Addr.add; split <;> simp_all
    rw [e0]
    have h2 : Whole1 (w.alloc (.cells us.toArray e)) w.heap.size e us.toArray := Whole1.made w e us.toArray
    rw [h2.cell j]
    simpa using hj
  · intro v' w' h2 h3 _
    refine h v' w' h2 ?_ ?_
    · exact Below.grown (Below.alloc (Below.refl _ _) hbase _) h3 (by simp; omega) (own_ge hown)
    · have h4 : w.grownBy (w.alloc (.cells us.toArray e)) v.ownBlock := Only.alloc (World.grownBy.refl _ _) _
      exact ⟨h3.os.trans h4.os, h3.tape.trans h4.tape, h3.output.trans h4.output, Nat.le_trans h4.size h3.size, fun k hk hne => (h3.block k (Nat.lt_of_lt_of_le hk h4.size) hne).trans (h4.block k hk hne)⟩

end Go.Proofs.YtafialodjnjihaaDoor
