/- Reading frames by a range over a function: the iterator. No condition. -/
import Derived.Test.YtafialodjnjihaaRefScan
import Derived.Test.YtafialodjnjihaaRange
namespace Go.Proofs.Ytafialodjnjihaa
open Go Go.RowKit Go.BigFrame
set_option maxRecDepth 100000
set_option linter.unusedVariables false
attribute [local go_sem] Oper.semAt_some

/-- What the cells hold: the texts, how many bytes, the error; the bytes that are left. -/
def Hold (w : World) (v : Value) (l : List ByteArray) (p er : Nat) (R : ByteArray) (W : World) : Prop :=
  (Whole1 W w.heap.size 23 #[v] ∧ Whole1 W (w.heap.size + 1) 3 #[.int .i64 (p : Nat)] ∧ Whole1 W (w.heap.size + 1 + 1) 27 #[.int .i64 (er : Nat)] ∧ Whole1 W (w.heap.size + 1 + 1 + 1) 9 #[.string R] ∧ W.ownsRow (w.heap.size + 4) 9 1 v l.length (texts l)) ∧ Below w.heap.size w W

theorem whole_firm {B g : Nat} {t : TypeId} {cs : Array Value} : Firm B (fun W => Whole1 W g t cs) := fun W W' row h hg hr => h.grown hg (by
  intro e
  obtain ⟨_, o, ho, hc⟩ := hr g e.symm
  unfold Whole1 at h; rw [h] at ho; cases ho; cases hc)
theorem own_firm {B base n : Nat} {e : TypeId} {v : Value} {xs : List Value} : Firm B (fun W => W.ownsRow base e 1 v n xs) := fun W W' row h hg hr => by
  refine h.kept hg ?_
  rcases h.2 with ⟨rfl, _⟩ | ⟨g, cap, cur, rfl, _, hgb, _⟩
  · exact .inl rfl
  · refine .inr fun e' => ?_
    obtain ⟨_, o, ho, hc⟩ := hr g (by rw [← e']; rfl)
    rw [hgb] at ho; cases ho; cases hc
theorem hold_firm {w : World} {v : Value} {l : List ByteArray} {p er : Nat} {R : ByteArray} {B : Nat} (hB : w.heap.size ≤ B) : Firm B (Hold w v l p er R) :=
  Firm.and (Firm.and whole_firm (Firm.and whole_firm (Firm.and whole_firm (Firm.and whole_firm own_firm)))) (Firm.below hB (Nat.le_refl _))
/-- A call that makes memory alone. -/
theorem Hold.later {w A B : World} {v : Value} {l : List ByteArray} {p er : Nat} {R : ByteArray} (h : Hold w v l p er R A) (hb : Below A.heap.size A B) : Hold w v l p er R B := by
  obtain ⟨⟨h1, h2, h3, h4, h5⟩, h6⟩ := h
  exact ⟨⟨h1.below hb h1.lt, h2.below hb h2.lt, h3.below hb h3.lt, h4.below hb h4.lt, own_kept h5 (Only.below hb none) (by cases v.ownBlock with | none => exact .inl rfl | some k => exact .inr (by simp))⟩, Below.grown h6 (Only.below hb none) h6.size (by simp)⟩
theorem keeps_below {A B : World} (hb : Below A.heap.size A B) : KeepsOthers A B := ⟨hb.size, fun k o h _ => (hb.block k (Array.getElem?_eq_some_iff.1 h).1).trans h⟩
theorem own_far {w : World} {base size n : Nat} {e : TypeId} {v : Value} {xs : List Value} (h : w.ownsRow base e size v n xs) {g : Nat} (hg : g < base) : v.ownBlock = none ∨ v.ownBlock ≠ some g := .inr fun e' => by have := own_ge h g e'; omega
theorem only_set (A : World) (g i : Nat) (u : Value) : A.grownBy (A.setCell ⟨g, i, none⟩ u) (some g) := Only.put (World.grownBy.refl _ _) (.inl rfl) u
/-- The bytes that are left are cut. -/
theorem Hold.cut {w A : World} {v : Value} {l : List ByteArray} {p er : Nat} {R : ByteArray} (h : Hold w v l p er R A) (R' : ByteArray) : Hold w v l p er R' (A.setCell ⟨w.heap.size + 1 + 1 + 1, 0, none⟩ (.string R')) := by
  obtain ⟨⟨h1, h2, h3, h4, h5⟩, h6⟩ := h
  exact ⟨⟨h1.other (by simp; omega) _, h2.other (by simp) _, h3.other (by simp) _, (h4.put 0 _).to rfl, own_kept h5 (only_set _ _ _ _) (own_far h5 (by omega))⟩, h6.setCell (p := ⟨w.heap.size + 1 + 1 + 1, 0, none⟩) (by simp; omega) _⟩

/-- How reading goes on. -/
def Going (b : ByteArray) (w : World) (R : ByteArray) (W : World) : Prop := ∃ k p v l, st b k = some (p, l) ∧ rest b p = R ∧ Hold w v l p 0 R W
/-- at the call of yield with x: the bytes that are left -/
def AtYield (b : ByteArray) (w : World) (x : ByteArray) (W : World) : Prop := 0 < x.size ∧ Going b w x W
/-- that round goes on -/
def Went (b : ByteArray) (w : World) (x : ByteArray) (W : World) : Prop :=
  (nxt x).2 = 0 ∧ ∃ k p v l, st b (k + 1) = some (p, l) ∧ rest b p = x.extract (12 + (nxt x).1.size) x.size ∧ 12 + (nxt x).1.size ≤ x.size ∧ Hold w v l p 0 x W
def LeftBy (b : ByteArray) (w : World) (c : Code) (x : ByteArray) (W : World) : Prop :=
  c = .ret ∧ ∃ p v l, Stops b l p (nxt x).2 ∧ Hold w v l p (nxt x).2 x W
def Through (b : ByteArray) (w : World) (W : World) : Prop := ∃ p v l R, Stops b l p 0 ∧ Hold w v l p 0 R W

theorem bytes_empty {R : ByteArray} (h : R.size = 0) : R = ⟨#[]⟩ := by apply ByteArray.ext; apply Array.eq_empty_of_size_eq_zero; exact h

/-- How many bytes are left. -/
def leftIn (w W : World) : Nat := match W.cell? ⟨w.heap.size + 1 + 1 + 1, 0, none⟩ with | some (.string R) => R.size | _ => 0
theorem leftIn_eq {w W : World} {v : Value} {l : List ByteArray} {p er : Nat} {R : ByteArray} (h : Hold w v l p er R W) : leftIn w W = R.size := by
  have := h.1.2.2.2.1.cell 0
  unfold leftIn; rw [this]; rfl
theorem text_some {R : ByteArray} (h : ¬ R.size = 0) : R.toList.isEmpty = false := by
  rw [Go.ByteArray.toList_eq]
  cases hl : R.data.toList with
  | nil => exfalso; apply h; rw [← len_list, hl]; rfl
  | cons a l => rfl
/-- The iterator. -/
theorem frames_in (b : ByteArray) (hb : b.size ≤ 1000000000) (w : World) (l : Nat) (Ready : World → Prop) (Left : Code → World → Prop) (W : World) (hR : ∀ A B, KeepsOthers A B → Ready A → Ready B) (n : Nat)
    (hY : ∀ x A, AtYield b w x A → Ready A → YieldAt Fence.wide n Try.prog l #[.string (nxt x).1, .int .i64 ((nxt x).2 : Nat)] A fun e B => (e = .returned (.bool true) ∧ Ready B ∧ Went b w x B) ∨ (e = .returned (.bool false) ∧ ∃ c, LeftBy b w c x B ∧ Left c B))
    (h0 : Going b w b W) (hr : Ready W) :
    CallsIn Fence.wide (n + 1) Try.prog 78 #[.func (.yield l) #[] #[], .pointer (some ⟨w.heap.size + 1 + 1 + 1, 0, none⟩)] W fun e B => (∃ v, e = .returned v) ∧ ((Ready B ∧ Through b w B) ∨ (∃ c x, LeftBy b w c x B ∧ Left c B)) := by
  have HB := box hb; clear hb
  refine callsIn_of_wp Try.func78 rfl trivial ?_ rfl
  simp only [Try.ntmps78, List.size_toArray, List.length_cons, List.length_nil, Nat.reduceAdd, Nat.reduceSub, Array.replicate_succ, Array.replicate_zero, List.push_toArray, List.append_toArray, List.nil_append, List.cons_append]
  gi_wp2
  gi_loopw [3] (fun s wr => ∃ R, Going b w R wr ∧ Ready wr) (fun s wr => leftIn w wr)
  case atStart => exact ⟨b, h0, hr⟩
  case round =>
    obtain ⟨R, ⟨k, p, v, l, hst, hrest, hH⟩, hr⟩ := hrel
    have RR := box hrest
    have HH := box hH
    have ST := box hst
    have HR := box hr
    have hcell : wr.cell? ⟨w.heap.size + 1 + 1 + 1, 0, none⟩ = some (.string R) := hH.1.2.2.2.1.cell 0
    have hfr := hH.1.2.2.2.1.frozen 0
    have hleft := box (leftIn_eq hH)
    clear hrest hH hst hr
    by_cases h0 : R.size = 0
    · have hE := bytes_empty h0
      have t1 : R.toList.isEmpty = true := by rw [hE, Go.ByteArray.toList_eq]; rfl
      clear h0
      gi_wp2
      go_end0
      refine ⟨⟨_, rfl⟩, .inl ⟨HR.out, p, v, l, R, ⟨k, ST.out, .inl ⟨?_, rfl⟩⟩, HH.out⟩⟩
      have h1 := rest_size b p
      have h2 := (st_le ST.out).1
      rw [RR.out, hE] at h1
      have h3 : (⟨#[]⟩ : ByteArray).size = 0 := rfl
      omega
    · have t1 : R.toList.isEmpty = false := text_some h0
      clear h0
      have hRs : R.size ≤ maxLen := by
        have h1 := rest_size b p
        rw [RR.out] at h1
        have := HB.out
        unfold maxLen; omega
      obtain ⟨s, er, hn⟩ : ∃ s er, nxt R = (s, er) := ⟨_, _, rfl⟩
      have HN := box hn
      clear hn
      have C : Box (∀ (m : Nat) (W : World), CallsIn Fence.wide m Try.prog 79 #[.string R] W fun e w' => e = .returned (.tuple #[.string s, .int .i64 (er : Nat)]) ∧ Below W.heap.size W w') :=
        box (fun m W => by have := frameNext_any R W hRs; rw [HN.out] at this; exact callsIn_wide.2 this)
      clear hRs
      have hpos : 0 < R.size := by
        rcases Nat.eq_zero_or_pos R.size with h | h
        · rw [show R = ⟨#[]⟩ from bytes_empty h, Go.ByteArray.toList_eq] at t1; cases t1
        · exact h
      have HP := box hpos
      clear hpos
      have YY := box hY
      clear hY
      gi_wp2_with fail
      refine ⟨trivial, (C.out _ _).mono ?_⟩
      rintro e w1 ⟨rfl, hb1⟩
      have HB1 := box hb1
      have HH1 := box (HH.out.later hb1)
      have HR1 := box (hR _ _ (keeps_below hb1) HR.out)
      clear hb1
      have YY2 := YY.out R w1 ⟨HP.out, k, p, v, l, ST.out, RR.out, HH1.out⟩ HR1.out
      rw [HN.out] at YY2
      obtain ⟨fn, tmps, assign, body, hy, hR2⟩ := YY2
      have RND := box hR2
      clear hR2
      gi_wp2_with fail
      refine RND.out.mono ?_
      rintro e w2 (⟨rfl, hr2, he, k', p', v', l', hst', hrest', hle, hH'⟩ | ⟨rfl, c, hl, hL⟩)
      · rw [HN.out] at he hrest' hle
        dsimp only at he hrest' hle
        subst he
        have hs64 : wrap64 ((12 : Int) + (s.size : Int)) = 12 + (s.size : Int) := by
          have h1 := HB.out
          have h2 := rest_size b p
          rw [RR.out] at h2
          exact wraps64 _ (by omega) (by omega)
        have HS := box hs64
        clear hs64
        have b1 : (12 : Int) + (s.size : Int) ≤ (R.size : Int) := by omega
        have b2 : (0 : Int) ≤ 12 + (s.size : Int) := by omega
        have b3 : ((12 : Int) + (s.size : Int)).toNat = 12 + s.size := by omega
        have hcell2 : w2.cell? ⟨w.heap.size + 1 + 1 + 1, 0, none⟩ = some (.string R) := hH'.1.2.2.2.1.cell 0
        have hfr2 : w2.frozen? ⟨w.heap.size + 1 + 1 + 1, 0, none⟩ = false := hH'.1.2.2.2.1.frozen 0
        have HH2 := box (hH'.cut (R.extract (12 + s.size) R.size))
        have HW := box (And.intro hst' (And.intro hrest' hle))
        have HR2 := box hr2
        have hs64 := HS.out
        clear hst' hrest' hle hH' hr2 HH HH1 HR1 HR
        gi_wp2_with fail
        clear hs64 b3
        go_roundw
        case rel => exact ⟨_, ⟨_, _, _, _, HW.out.1, HW.out.2.1, HH2.out⟩, hR _ _ (KeepsOthers.setCell _ _ _) HR2.out⟩
        case measure =>
          rw [leftIn_eq HH2.out, hleft.out]
          have := HW.out.2.2
          have := HP.out
          simp [ByteArray.size_extract]; omega
      · gi_wp2_with fail
        refine bodyPost_ret (results_none rfl _ _ _) rfl ?_
        exact ⟨⟨_, rfl⟩, .inr ⟨c, R, hl, hL⟩⟩
end Go.Proofs.Ytafialodjnjihaa
