/- key.After and the reference's: the least text above all that begin so. Condition: the text is shorter than 2^40. -/
import Derived.Test.YtafialodjnjihaaDoorHigh
import Derived.Test.YtafialodjnjihaaDoorLater
import Derived.Lib.AtoiErrMem
namespace Go.Proofs.YtafialodjnjihaaDoor
open Go Go.RowKit Go.BigFrame
set_option maxRecDepth 100000
set_option linter.unusedVariables false

/-- Block g holds the bytes l, and what lies behind them; the mark of a conversion's row lies behind all. -/
def ByteBlock (w : World) (g : Nat) (l : List UInt8) : Prop :=
  ∃ cs : Array Value, w.heap[g]? = some (.cells cs 5 (cs.size, cs.size + 1)) ∧ l.length ≤ cs.size ∧ ∀ j (h : j < l.length), cs[j]? = some (byteV l[j])

section
variable {w w' : World} {g : Nat} {l : List UInt8}
theorem ByteBlock.cell (h : ByteBlock w g l) (j : Nat) (hj : j < l.length) : w.cell? ⟨g, j, none⟩ = some (byteV l[j]) := by
  obtain ⟨cs, h1, _, h3⟩ := h
  simp [World.cell?, h1, h3 j hj]
theorem ByteBlock.frozen (h : ByteBlock w g l) (j : Nat) (hj : j < l.length) : w.frozen? ⟨g, j, none⟩ = false := by
  obtain ⟨cs, h1, h2, _⟩ := h
  simp [World.frozen?, h1]
  omega
theorem ByteBlock.put (h : ByteBlock w g l) (j : Nat) (hj : j < l.length) (b : UInt8) : ByteBlock (w.setCell ⟨g, j, none⟩ (byteV b)) g (l.set j b) := by
  obtain ⟨cs, h1, h2, h3⟩ := h
  refine ⟨cs.setIfInBounds j (byteV b), ?_, by simpa using h2, fun i hi => ?_⟩
  · simp [World.setCell, Array.getElem?_modify, h1]
  · rw [Array.getElem?_setIfInBounds]
    by_cases e : j = i
    · subst e; rw [if_pos rfl, if_pos (by omega)]; simp
    · rw [if_neg e, h3 i (by simpa using hi)]
      simp [List.getElem_set_ne e]
theorem ByteBlock.below {B : Nat} (h : ByteBlock w g l) (hb : Below B w w') (hg : g < B) : ByteBlock w' g l := by
  obtain ⟨cs, h1, h2, h3⟩ := h
  exact ⟨cs, (hb.block g hg).trans h1, h2, h3⟩
theorem ByteBlock.lt (h : ByteBlock w g l) : g < w.heap.size := by
  obtain ⟨cs, h1, _⟩ := h
  rcases Nat.lt_or_ge g w.heap.size with hlt | hge
  · exact hlt
  · rw [Array.getElem?_eq_none hge] at h1; cases h1
theorem ByteBlock.str (h : ByteBlock w g l) (cap : Nat) : (convert 60 9 (.slice (some ⟨g, 0, none⟩) l.length cap)).run Tryd.prog w = .ok (.string ⟨l.toArray⟩) w :=
  run_convert_bytes_back (P := Tryd.prog) w 60 9 5 ⟨g, 0, none⟩ cap l Tryd.underlying60 Tryd.underlying5 Tryd.underlying9 (fun j hj => by
    rw [addr_add0]; exact h.cell j hj)
end
theorem ByteBlock.made (w : World) (s : ByteArray) : ByteBlock (Lib.bytesWorld w 5 s) w.heap.size s.data.toList := by
  refine ⟨Lib.bytesCells w 5 s, Lib.bytesWorld_at_new w 5 s, ?_, fun j hj => ?_⟩
  · simp [Lib.bytesCells]
  · have hj' : j < s.data.size := by simpa using hj
    unfold Lib.bytesCells
    rw [Array.getElem?_append_left (by simpa using hj')]
    simp only [Array.getElem?_map, Array.getElem?_eq_getElem hj', Option.map_some, byteV]
    rfl


/-- How long a text is without the bytes 255 at its end. -/
structure Trim (s : ByteArray) (n : Nat) : Prop where
  le : n ≤ s.size
  all : ∀ j (h : j < s.size), n ≤ j → s[j] = 255
  last : ∀ m (h : m < s.size), n = m + 1 → s[m] ≠ 255
theorem Trim.one {s : ByteArray} {n m : Nat} (h : Trim s n) (h' : Trim s m) : n = m := by
  have a := h.le
  have b := h'.le
  rcases Nat.lt_trichotomy n m with c | c | c
  · exact absurd (h.all (m - 1) (by omega) (by omega)) (h'.last (m - 1) (by omega) (by omega))
  · exact c
  · exact absurd (h'.all (n - 1) (by omega) (by omega)) (h.last (n - 1) (by omega) (by omega))
def afterT (s : ByteArray) : Nat → ByteArray
  | 0 => ⟨#[]⟩
  | m + 1 => ⟨(s.data.toList.take m ++ [s.data.toList.getD m 0 + 1]).toArray⟩
def AfterSays (s : ByteArray) (w : World) (e : Ending) (w' : World) : Prop := ∃ n, Trim s n ∧ e = .returned (.tuple #[.string (afterT s n), .bool (decide (n ≠ 0))]) ∧ Below w.heap.size w w'
theorem set_last (l : List UInt8) (m : Nat) (h : l.length = m + 1) (b : UInt8) : l.set m b = l.take m ++ [b] := by
  rw [List.set_eq_take_append_cons_drop, if_pos (by omega), List.drop_of_length_le (by omega)]
theorem byte_succ (b : UInt8) (h : b ≠ 255) : ((b + 1 : UInt8).toNat : Int) = (b.toNat : Int) + 1 := by
  have h1 : b.toNat ≠ 255 := fun e => h (UInt8.toNat_inj.1 e)
  have h2 := b.toNat_lt
  rw [UInt8.toNat_add]
  have : (1 : UInt8).toNat = 1 := rfl
  rw [this]
  omega
set_option maxHeartbeats 2000000 in
theorem after_any (s : ByteArray) (w : World) (hs : s.size ≤ 1099511627776) : Calls Tryd.prog 38 #[.string s] w (AfterSays s w) := by
  go_enter Tryd.func38, Tryd.ntmps38
  go_wp2_with fail
  go_loop [4] (fun i => ∃ n : Nat, i = .int .i64 n ∧ n ≤ s.size ∧ Box (∀ j (h : j < s.size), n ≤ j → s[j] = 255)) (fun i => (intOf i).toNat)
  case atStart => exact ⟨s.size, rfl, Nat.le_refl _, box (fun j h h2 => by omega)⟩
  case round =>
    obtain ⟨n, rfl, hn, HA⟩ := hrel
    cases n with
    | zero =>
      go_wp2_with fail
      go_ret2
      exact ⟨0, ⟨Nat.zero_le _, HA.out, fun m h e => by omega⟩, rfl, Below.refl _ _⟩
    | succ m =>
      have hm : m < s.size := hn
      have hmI : (m : Int) < (s.size : Int) := by omega
      have hb : s[m].toNat < 256 := s[m].toNat_lt
      by_cases hc : s[m].toNat = 255
      · have hc1 : ((s[m].toNat : Int) == 255) = true := by simp; omega
        have NX : Box (∀ j (h : j < s.size), m ≤ j → s[j] = 255) := box (fun j h h2 => by
          rcases Nat.lt_or_ge m j with h3 | h3
          · exact HA.out j h h3
          · have : j = m := by omega
            subst this; exact UInt8.toNat_inj.1 hc)
        go_wp2_with fail
        go_round
        case rel => exact ⟨m, by go_num, by omega, NX⟩
        case measure => simp [intOf]
      · have hc1 : ((s[m].toNat : Int) == 255) = false := by simp; omega
        have hne : s[m] ≠ 255 := fun e => hc (by rw [e]; rfl)
        obtain ⟨t, ht⟩ : ∃ t, s.extract 0 (m + 1) = t := ⟨_, rfl⟩
        have tl : t.data.toList = s.data.toList.take (m + 1) := by rw [← ht]; simp
        have ts : t.size = m + 1 := by
          have : t.data.toList.length = t.size := rfl
          rw [← this, tl, List.length_take]
          have : s.data.toList.length = s.size := rfl
          omega
        have hcv := Lib.run_convert_string_bytes (P := Tryd.prog) w 9 60 5 t Tryd.underlying9 Tryd.underlying60 Tryd.underlying5
        have HB := box (Lib.bytesWorld_below w 5 t)
        have HC := box (ByteBlock.made w t)
        generalize Lib.bytesWorld w 5 t = wb at *
        generalize grownCap w t.size 0 5 = cap at *
        have tlen : t.data.toList.length = m + 1 := ts
        have hcell := HC.out.cell m (by omega)
        have hfz := HC.out.frozen m (by omega)
        have hg : t.data.toList[m]'(by omega) = s[m] := by simp only [tl]; rw [List.getElem_take]; rfl
        rw [hg] at hcell
        unfold byteV at hcell
        have HP := box (HC.out.put m (by omega) (s[m] + 1))
        have HB2 := box (HB.out.setCell (p := ⟨w.heap.size, m, none⟩) (Nat.le_refl _) (byteV (s[m] + 1)))
        have hst := HP.out.str cap
        rw [List.length_set, tlen] at hst
        rw [byteV, byte_succ _ hne] at hst
        have hw : ((s[m].toNat : Int) + 1) % 256 = (s[m].toNat : Int) + 1 := by omega
        rw [ts] at hcv
        clear HC HP
        go_wp2_with fail
        go_ret2
        refine ⟨m + 1, ⟨hm, HA.out, fun q hq e => ?_⟩, ?_, by have h := HB2.out; rw [byteV, byte_succ _ hne] at h; exact h⟩
        · have : q = m := by omega
          subst this; exact hne
        · have e1 : (List.take (m + 1) s.data.toList).set m (s[m] + 1) = s.data.toList.take m ++ [s.data.toList.getD m 0 + 1] := by
            rw [set_last _ m (tl ▸ tlen), List.take_take, Nat.min_eq_left (by omega)]
            congr 2
            simp [hm]; rfl
          show Ending.returned (.tuple #[.string ⟨((List.take (m + 1) s.data.toList).set m (s[m] + 1)).toArray⟩, .bool true]) = _
          rw [e1]; rfl
set_option maxHeartbeats 2000000 in
theorem refafter_any (s : ByteArray) (w : World) (hs : s.size ≤ 1099511627776) : Calls Tryd.prog 39 #[.string s] w (AfterSays s w) := by
  go_enter Tryd.func39, Tryd.ntmps39
  go_wp2_with fail
  go_loop [4] (fun i => ∃ n : Nat, i = .int .i64 n ∧ n ≤ s.size ∧ Box (∀ j (h : j < s.size), n ≤ j → s[j] = 255)) (fun i => (intOf i).toNat)
  case atStart => exact ⟨s.size, rfl, Nat.le_refl _, box (fun j h h2 => by omega)⟩
  case round =>
    obtain ⟨n, rfl, hn, HA⟩ := hrel
    cases n with
    | zero =>
      go_wp2_with fail
      go_ret2
      exact ⟨0, ⟨Nat.zero_le _, HA.out, fun m h e => by omega⟩, rfl, Below.refl _ _⟩
    | succ m =>
      have hm : m < s.size := hn
      have hmI : (m : Int) < (s.size : Int) := by omega
      have hb : s[m].toNat < 256 := s[m].toNat_lt
      by_cases hc : s[m].toNat = 255
      · have hc1 : ((s[m].toNat : Int) == 255) = true := by simp; omega
        have NX : Box (∀ j (h : j < s.size), m ≤ j → s[j] = 255) := box (fun j h h2 => by
          rcases Nat.lt_or_ge m j with h3 | h3
          · exact HA.out j h h3
          · have : j = m := by omega
            subst this; exact UInt8.toNat_inj.1 hc)
        go_wp2_with fail
        go_round
        case rel => exact ⟨m, by go_num, by omega, NX⟩
        case measure => simp [intOf]
      · have hc1 : ((s[m].toNat : Int) == 255) = false := by simp; omega
        have hne : s[m] ≠ 255 := fun e => hc (by rw [e]; rfl)
        have hw : ((s[m].toNat : Int) + 1) % 256 = (s[m].toNat : Int) + 1 := by omega
        have hcv : (convert 60 9 (.slice (some ⟨w.heap.size, 0, none⟩) 1 1)).run Tryd.prog (w.alloc (.cells #[.int .u8 ((s[m].toNat : Int) + 1)] 5)).drew = .ok (.string ⟨[s[m] + 1].toArray⟩) (w.alloc (.cells #[.int .u8 ((s[m].toNat : Int) + 1)] 5)).drew := by
          refine run_convert_bytes_back (P := Tryd.prog) _ 60 9 5 ⟨w.heap.size, 0, none⟩ 1 [s[m] + 1] Tryd.underlying60 Tryd.underlying5 Tryd.underlying9 (fun j hj => ?_)
          rw [addr_add0]
          have h1 := (Whole1.made w 5 #[.int .u8 ((s[m].toNat : Int) + 1)]).cell j
          refine Eq.trans h1 ?_
          obtain rfl : j = 0 := by simpa using hj
          simp only [List.getElem_cons_zero]
          rw [byte_succ _ hne]; rfl
        go_wp2_with fail
        go_region
        all_goals go_wp2
        all_goals go_ret2
        refine ⟨m + 1, ⟨hm, HA.out, fun q hq e => ?_⟩, ?_, ((Below.refl w.heap.size w).alloc (Nat.le_refl _) _).drew⟩
        · have : q = m := by omega
          subst this; exact hne
        · show Ending.returned (.tuple #[.string (s.extract 0 m ++ ⟨#[s[m] + 1]⟩), .bool true]) = Ending.returned (.tuple #[.string (afterT s (m + 1)), .bool true])
          have e1 : s.extract 0 m ++ ⟨#[s[m] + 1]⟩ = afterT s (m + 1) := by
            refine ByteArray.ext (Array.toList_inj.1 ?_)
            unfold afterT
            simp [hm]; rfl
          rw [e1]

end Go.Proofs.YtafialodjnjihaaDoor
