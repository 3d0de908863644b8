/- A range over a function whose own state lies in cells: one law for the statement, its iterator and its rounds. No condition. -/
import Derived.RangeFuncNested
import Derived.RangeFuncBound
import Derived.RangeFuncCalls
import Derived.RangeFuncLeaves
import Derived.WalkKit
import Derived.OwnWalkIn
import Derived.TacticsInMore
import Derived.LoopNIn
import Derived.LoopIn
namespace Go.Proofs.Ytafialodjnjihaa
open Go Go.RowKit

/-- A fact that minds neither new blocks nor a turn of what is no cells from block B on. -/
def Firm (B : Nat) (I : World → Prop) : Prop :=
  ∀ W W' row, I W → W.grownBy W' row → (∀ r, row = some r → B ≤ r ∧ ∃ o : Obj, W.heap[r]? = some o ∧ o.isCells = false) → I W'
theorem Firm.alloc {B : Nat} {I : World → Prop} (h : Firm B I) {W : World} (o : Obj) (hi : I W) : I (W.alloc o) := h W _ none hi (World.grownBy_alloc W o none) (fun r e => by cases e)
theorem Firm.putObj {B : Nat} {I : World → Prop} (h : Firm B I) {W : World} {l : Nat} {o : Obj} (o' : Obj) (hi : I W) (hB : B ≤ l) (hl : W.heap[l]? = some o) (ho : o.isCells = false) : I (W.putObj l o') :=
  h W _ (some l) hi (grownBy_putObj' W l o') (fun r e => by cases e; exact ⟨hB, o, hl, ho⟩)
theorem Firm.and {B : Nat} {I J : World → Prop} (h : Firm B I) (k : Firm B J) : Firm B (fun W => I W ∧ J W) := fun W W' row hi hg hr => ⟨h W W' row hi.1 hg hr, k W W' row hi.2 hg hr⟩
theorem Firm.ex {B : Nat} {β : Type} {I : β → World → Prop} (h : ∀ x, Firm B (I x)) : Firm B (fun W => ∃ x, I x W) := fun W W' row ⟨x, hi⟩ hg hr => ⟨x, h x W W' row hi hg hr⟩
theorem Firm.pure {B : Nat} (p : Prop) : Firm B (fun _ => p) := fun _ _ _ hi _ _ => hi
theorem Firm.below {B n₀ : Nat} {w : World} (hw : n₀ ≤ B) (hs : n₀ ≤ w.heap.size) : Firm B (fun W => Below n₀ w W) := fun W W' row hi hg hr =>
  hi.grown hg (Nat.le_trans hs hi.size) (fun k e => by have := (hr k e).1; omega)

/-- How the body of a round may be left. -/
def roundEnds (I' : World → Prop) (Ix : Code → World → Prop) (W : World) : Exit → Act → World → Prop
  | .normal, _, W' => KeepsOthers W W' ∧ I' W'
  | .ret, _, W' => KeepsOthers W W' ∧ Ix .ret W'
  | .exit id, _, W' => KeepsOthers W W' ∧ Ix (.exit id) W'
  | .goto t, _, W' => KeepsOthers W W' ∧ Ix (.goto t) W'
  | .panic _, _, _ => False
  | .outgrown, _, _ => False

variable {F : Fence} {n : Nat} {P : Program}

/-- The statement. I x: at the call of yield with x; I' x: that round goes on; Ix c x: it leaves by c; Fin: the iterator is through. What the iterator owes (hit): under whatever Ready, Left that mind no cells. -/
theorem wpIn_rangeFunc_state {α : Type} {g : Operand} {ps : Array Tmp} {assign body : Code} {Q : Exit → Act → World → Prop} {a : Act} {w : World}
    (hro : F.round = none) (h1 : 1 ≤ n) {gf : Nat} {lb : Array Value} (hg : a.eval g = .func (.func gf) #[] lb) (hFg : F.fn gf) (eg : ∀ args w, (callFunc gf args).run P w = .ok (.enter gf args) w)
    {encs : α → Array Value} (hps : ∀ x, (encs x).size = ps.size)
    (I0 : World → Prop) (I I' : α → World → Prop) (Ix : Code → α → World → Prop) (Fin : World → Prop)
    (hI0 : Firm w.heap.size I0) (hI : ∀ x, Firm w.heap.size (I x)) (hI' : ∀ x, Firm w.heap.size (I' x)) (hIx : ∀ c x, Firm w.heap.size (Ix c x)) (hFin : Firm w.heap.size Fin) (h0 : I0 w)
    (hit : ∀ (l : Nat) (Ready : World → Prop) (Left : Code → World → Prop) (W : World), (∀ A B, KeepsOthers A B → Ready A → Ready B) →
      (∀ x A, I x A → Ready A → YieldAt F (n - 1 - 1) P l (encs x) A fun e B => (e = .returned (.bool true) ∧ Ready B ∧ I' x B) ∨ (e = .returned (.bool false) ∧ ∃ c, Ix c x B ∧ Left c B)) →
      I0 W → Ready W →
      CallsIn F (n - 1) P gf (#[.func (.yield l) #[] #[]] ++ lb) W fun e B => (∃ v, e = .returned v) ∧ ((Ready B ∧ Fin B) ∨ (∃ c x, Ix c x B ∧ Left c B)))
    (a₁ : α → Act)
    (hassign : ∀ (l : Nat) (x : α) (W : World) (K : Act → World → Prop), K (a₁ x) W →
      assign.wpIn (F.inRound l) (n - 1 - 1) P (Exit.then K (fun _ _ _ => False)) { tmps := (ps.zip (encs x)).foldl (fun t (p, v) => t.setIfInBounds p v) a.tmps, defers := [] } W)
    (hbody : ∀ (l : Nat) (x : α) (W : World), I x W → body.wpIn (F.inRound l) (n - 1 - 1) P (roundEnds (I' x) (fun c => Ix c x) W) (a₁ x) W)
    (hdone : ∀ (D : Nat) (W : World), w.heap.size ≤ D → Fin W → W.heap[D]? = some (.deferred (some [])) → Q .normal { a with defers := { target := .collected D, args := #[] } :: a.defers } W)
    (hstop : ∀ (D : Nat) (c : Code) (x : α) (W : World), w.heap.size ≤ D → Ix c x W → W.heap[D]? = some (.deferred (some [])) → c.wpIn F n P Q { a with defers := { target := .collected D, args := #[] } :: a.defers } W) :
    (Code.rangeFunc g ps assign body).wpIn F n P Q a w := by
  refine wpIn_rangeFunc ?_
  intro fn hfn
  rw [hro]
  obtain ⟨rec, hrec⟩ : ∃ rec : LoopState → Option Code → Loop, rec = fun st pe => { state := st, pending := pe, fn, tmps := a.tmps, params := ps, assign, body, defers := w.heap.size } := ⟨_, rfl⟩
  obtain ⟨D, hD⟩ : ∃ D, D = w.heap.size := ⟨_, rfl⟩
  obtain ⟨W1, hW1⟩ : ∃ W1, (w.alloc (.deferred (some []))).alloc (.loop (rec .ready none)) = W1 := ⟨_, rfl⟩
  have hl1 : W1.heap[D + 1]? = some (.loop (rec .ready none)) := by
    have := World.alloc_heap_new (w.alloc (.deferred (some []))) (.loop (rec .ready none))
    rw [World.size_alloc, hW1, ← hD] at this; exact this
  have hd1 : W1.heap[D]? = some (.deferred (some [])) := by
    rw [← hW1, hD]; exact (Below.heap_alloc _ _ _ (by simp)).trans (World.alloc_heap_new w _)
  have hi1 : I0 W1 := by rw [← hW1]; exact hI0.alloc _ (hI0.alloc _ h0)
  refine ⟨D + 1, [{ target := .collected D, args := #[] }], W1, { target := .fn (.func gf) lb, args := #[.func (.yield (D + 1)) #[] #[]] }, W1, gf, #[.func (.yield (D + 1)) #[] #[]] ++ lb, W1, ?_, ?_, ?_, ?_, fun _ => h1, ?_⟩
  · rw [← hW1, hrec, hD]; exact run_enterLoop_outer _ _ _ _ _
  · simp only [resolve, hg]
    simp [go_sem]
  · intro f' hf'; simp [Target.leads] at hf'; subst hf'; exact hFg
  · simp [invoke, go_sem, eg]
  · have keep : ∀ (o : Obj) (A B : World), KeepsOthers A B → o.isCells = false → A.heap[D + 1]? = some o ∧ A.heap[D]? = some (.deferred (some [])) → B.heap[D + 1]? = some o ∧ B.heap[D]? = some (.deferred (some [])) :=
      fun o A B h ho k => ⟨h.same _ _ k.1 ho, h.same _ _ k.2 rfl⟩
    have put : ∀ (o o' : Obj) (A : World), A.heap[D + 1]? = some o ∧ A.heap[D]? = some (.deferred (some [])) → (A.putObj (D + 1) o').heap[D + 1]? = some o' ∧ (A.putObj (D + 1) o').heap[D]? = some (.deferred (some [])) :=
      fun o o' A k => ⟨World.putObj_heap_same (Array.getElem?_eq_some_iff.1 k.1).1, (World.putObj_heap_other (by omega)).trans k.2⟩
    refine (hit (D + 1) (fun A => A.heap[D + 1]? = some (.loop (rec .ready none)) ∧ A.heap[D]? = some (.deferred (some [])))
      (fun c A => A.heap[D + 1]? = some (.loop (rec .done (some c))) ∧ A.heap[D]? = some (.deferred (some []))) W1 (fun A B h k => keep _ A B h rfl k) ?_ hi1 ⟨hl1, hd1⟩).mono ?_
    · rintro x A hi hr
      have hy := run_yield (P := P) (args := encs x) hr.1 (by rw [hrec]; exact hps x)
      rw [hrec] at hy
      refine ⟨fn, _, assign, body, hy, roundIn_of_wpIn hfn (hassign _ x A _ ⟨_, run_beginRound hr.1 (by rw [hrec]), ?_⟩)⟩
      have hr2 := put _ (.loop { rec .ready none with state := .busy }) A hr
      have hi2 := (hI x).putObj (.loop { rec .ready none with state := .busy }) hi (by omega) hr.1 rfl
      have fin : ∀ (jump : Option Code) (C : World), KeepsOthers (A.putObj (D + 1) (.loop { rec .ready none with state := .busy })) C →
          (Instr.endRound (D + 1) jump).run P C = .ok (.bool jump.isNone) (C.putObj (D + 1) (.loop (rec (if jump.isNone then .ready else .done) jump))) ∧
          (C.heap[D + 1]? = some (.loop { rec .ready none with state := .busy }) ∧ C.heap[D]? = some (.deferred (some []))) := fun jump C h => by
        have k := keep _ _ C h rfl hr2
        refine ⟨?_, k⟩
        have := run_endRound (P := P) jump k.1
        rw [hrec] at this ⊢
        exact this
      refine wpIn_mono (hbody _ x _ hi2) ?_
      rintro e a3 C hp
      cases e with
      | normal =>
        obtain ⟨hr3, k⟩ := fin none C hp.1
        exact ⟨_, _, hr3, .inl ⟨rfl, put _ _ C k, (hI' x).putObj _ hp.2 (by omega) k.1 rfl⟩⟩
      | ret =>
        obtain ⟨hr3, k⟩ := fin (some .ret) C hp.1
        exact ⟨_, _, hr3, .inr ⟨rfl, .ret, (hIx _ x).putObj _ hp.2 (by omega) k.1 rfl, put _ _ C k⟩⟩
      | exit id =>
        obtain ⟨hr3, k⟩ := fin (some (.exit id)) C hp.1
        exact ⟨_, _, hr3, .inr ⟨rfl, .exit id, (hIx _ x).putObj _ hp.2 (by omega) k.1 rfl, put _ _ C k⟩⟩
      | goto t =>
        obtain ⟨hr3, k⟩ := fin (some (.goto t)) C hp.1
        exact ⟨_, _, hr3, .inr ⟨rfl, .goto t, (hIx _ x).putObj _ hp.2 (by omega) k.1 rfl, put _ _ C k⟩⟩
      | panic ch => exact hp.elim
      | outgrown => exact hp.elim
    · rintro e B ⟨⟨v, rfl⟩, ⟨hr, hf⟩ | ⟨c, x, hi, hl⟩⟩
      · refine ⟨none, _, (by have := run_endLoop (P := P) hr.1 (by rw [hrec]; simp); rw [hrec] at this; exact this), ?_⟩
        exact hdone D _ (by omega) (hFin.putObj _ hf (by omega) hr.1 rfl) ((World.putObj_heap_other (by omega)).trans hr.2)
      · refine ⟨some c, _, (by have := run_endLoop (P := P) hl.1 (by rw [hrec]; simp); rw [hrec] at this; exact this), ?_⟩
        exact hstop D c x _ (by omega) ((hIx c x).putObj _ hi (by omega) hl.1 rfl) ((World.putObj_heap_other (by omega)).trans hl.2)
end Go.Proofs.Ytafialodjnjihaa
