/- key.Get: the row that a key was put of, or that there is none. Conditions: the text is at most 65536 bytes long; utf8's two tables read as the program lays them; MaxLen's cell holds a number. -/
import Derived.Test.YtafialodjnjihaaDoorMid
import Derived.Laws.EntriesVeiled
namespace Go.Proofs.YtafialodjnjihaaDoor
open Go Go.RowKit Go.BigFrame
set_option maxRecDepth 100000
set_option linter.unusedVariables false

def lenV : Value → Nat
  | .slice _ n _ => n
  | _ => 0
structure GetAt (w : World) (s : ByteArray) (wr : World) (v : Value) (t : ByteArray) (b : Bool) (xs : List Val) : Prop where
  mid : Mid w wr.heap.size wr v xs.length (flat xs) t b
  size : t.size ≤ s.size
  len : xs.length ≤ 9
  ok : ∀ x ∈ xs, x.Ok ∧ x.text.size ≤ 140737488355328
  reads : Reads s.data.toList t.data.toList b xs
theorem GetAt.next {w w3 : World} {s t t1 : ByteArray} {v3 : Value} {b1 : Bool} {xs : List Val} {y : Val} (h3 : Mid w w3.heap.size w3 v3 (xs.length + 1) (flat (xs ++ [y])) t1 b1) (ht : t.size ≤ s.size) (hs : t1.size ≤ t.size) (hl : xs.length ≤ 8) (hok : ∀ x ∈ xs, x.Ok ∧ x.text.size ≤ 140737488355328)
    (hy : y.Ok ∧ y.text.size ≤ 140737488355328) (hr : Reads s.data.toList t1.data.toList b1 (xs ++ [y])) : GetAt w s w3 v3 t1 b1 (xs ++ [y]) :=
  ⟨by simpa using h3, Nat.le_trans hs ht, by simp; omega, fun x hx => by
    rcases List.mem_append.1 hx with h | h
    · exact hok x h
    · obtain rfl := List.mem_singleton.1 h; exact hy, hr⟩
theorem list_size (t : ByteArray) : t.data.toList.length = t.size := rfl
theorem size0_nil {t : ByteArray} (h : t.size = 0) : t.data.toList = [] := List.eq_nil_of_length_eq_zero h
theorem cons_size {t : ByteArray} (h : 0 < t.size) : ∃ c r, t.data.toList = c :: r := by
  cases e : t.data.toList with
  | nil => have := list_size t; rw [e] at this; simp at this; omega
  | cons c r => exact ⟨c, r, rfl⟩
/-- The first byte, and what stands behind it. -/
theorem split1 {t : ByteArray} {c : UInt8} {r : List UInt8} (h : t.data.toList = c :: r) : ∃ u t1, t.extract 0 1 = u ∧ t.extract 1 t.size = t1 ∧ u.size = 1 ∧ (∀ h : 0 < u.size, (u[0]'h).toNat = c.toNat) ∧ t1.data.toList = r ∧ t1.size + 1 = t.size := by
  have hs : t.size = r.length + 1 := by rw [← list_size, h]; simp
  have e1 : (t.extract 1 t.size).data.toList = r := by rw [Lib.extract_to_end, h]; rfl
  have e0 : (t.extract 0 1).data.toList = [c] := by simp [h]
  refine ⟨_, _, rfl, rfl, ?_, ?_, e1, ?_⟩
  · rw [← list_size, e0]; rfl
  · intro hh
    have : ((t.extract 0 1)[0]'hh) = (t.extract 0 1).data.toList[0]'hh := rfl
    rw [this]
    simp [h]
  · rw [← list_size (t.extract 1 t.size), e1, hs]
theorem zero1 : ∃ u : ByteArray, zeroS 1 = u ∧ u.size = 1 ∧ ∀ h : 0 < u.size, (u[0]'h).toNat = 0 := ⟨_, rfl, rfl, fun _ => rfl⟩
theorem put_cases (xs : List Val) (hok : ∀ x ∈ xs, x.Ok) : ∃ P E, putS xs = P ∧ putE xs = E ∧ ((Good xs ∧ P = ⟨(keyL xs).toArray⟩ ∧ E = 0) ∨ (¬ Good xs ∧ E = 2)) := by
  refine ⟨_, _, rfl, rfl, ?_⟩
  unfold putS putE
  cases h : goodB xs with
  | true => exact .inl ⟨good_of h hok, rfl, rfl⟩
  | false => exact .inr ⟨fun hg => (by rw [hg.b] at h; cases h), rfl⟩
theorem text_eq' {a b : ByteArray} (h : a = b) : (a.toList == b.toList) = true ∧ (a.toList != b.toList) = false := by subst h; simp
theorem text_ne' {a b : ByteArray} (h : a ≠ b) : (a.toList == b.toList) = false ∧ (a.toList != b.toList) = true := by
  have : a.toList ≠ b.toList := fun e => h (by
    rw [Go.ByteArray.toList_eq, Go.ByteArray.toList_eq] at e
    exact ByteArray.ext (Array.toList_inj.1 e))
  simp [this]
theorem nul_ok (k : Nat) (hk : k < 256) : (nul k).Ok ∧ (nul k).text.size ≤ 140737488355328 := ⟨⟨hk, by unfold nul; dsimp only; omega, by unfold nul; dsimp only; omega, by unfold nul maxLen; dsimp only; show 0 ≤ _; omega⟩, by unfold nul; show 0 ≤ _; omega⟩
theorem val_ok (k : Nat) (i : Int) (r : Nat) (t : ByteArray) (hk : k < 256) (hi : -9223372036854775808 ≤ i ∧ i < 9223372036854775808) (hr : r < 18446744073709551616) (ht : t.size ≤ 65536) : (Val.mk k i r t).Ok ∧ (Val.mk k i r t).text.size ≤ 140737488355328 :=
  ⟨⟨hk, hi, hr, by unfold maxLen; show t.size ≤ _; omega⟩, by show t.size ≤ _; omega⟩

set_option maxHeartbeats 60000000 in
theorem get_any (s : ByteArray) (w : World) (hs : s.size ≤ 65536) (hT : Tabs6 w) : Calls Tryd.prog 36 #[.string s] w (GetSays s w) := by
  have HT := box hT
  clear hT
  go_enter Tryd.func36, Tryd.ntmps36
  go_wp2_with fail
  go_loopw [4] (fun v wr => ∃ (t : ByteArray) (b : Bool) (xs : List Val), GetAt w s wr v t b xs) (fun v _ => 10 - lenV v)
  case atStart =>
    refine ⟨s, false, [], ⟨⟨?_, ?_, ?_, World.ownsRow_nil _ _ _ _, ?_, ?_, Nat.le_refl _, ?_⟩, Nat.le_refl _, Nat.zero_le _, by simp, Reads.start _⟩⟩
    · exact ((Whole1.made w 9 #[.string s]).alloc _).alloc _
    · have h := (Whole1.made (w.alloc (.cells #[.string s] 9)) 4 #[.bool false]).alloc (.cells #[takeF w.heap.size (w.heap.size + 1)] 75)
      simpa [takeF] using h
    · have h := Whole1.made ((w.alloc (.cells #[.string s] 9)).alloc (.cells #[.bool false] 4)) 75 #[takeF w.heap.size (w.heap.size + 1)]
      simpa [takeF] using h
    · exact ((((Below.refl w.heap.size w).alloc (Nat.le_refl _) _).alloc (by simp) _).alloc (by simp; omega) _)
    · simp
    · intro k hk; simp [Value.ownBlock] at hk
  case round =>
    obtain ⟨t, b, xs, hG⟩ := hrel
    obtain ⟨a0, cap0, rfl, hv, hnil⟩ := vals_own' hG.mid.own rfl (by have := hG.len; omega) hG.ok
    have M := box hG.mid
    have RDS := box hG.reads
    have OKS := box hG.ok
    have hlen := hG.len
    have hsize := hG.size
    have HV := box hv
    have HN := box hnil
    have r0 : wr.cell? ⟨w.heap.size, 0, none⟩ = some (.string t) := hG.mid.R.cell 0
    have d0 : wr.cell? ⟨w.heap.size + 1, 0, none⟩ = some (.bool b) := hG.mid.D.cell 0
    have q0 : wr.cell? ⟨w.heap.size + 1 + 1, 0, none⟩ = some (.func (.func 53) #[] #[.pointer (some ⟨w.heap.size, 0, none⟩), .pointer (some ⟨w.heap.size + 1, 0, none⟩)]) := hG.mid.T.cell 0
    clear hG hv hnil
    by_cases hgo : 0 < t.size ∧ b = false ∧ xs.length ≤ 8
    · obtain ⟨hp, rfl, hl8⟩ := hgo
      have hpI : (0 : Int) < (t.size : Int) := by omega
      have hlI : (xs.length : Int) ≤ 8 := by omega
      obtain ⟨c, r, hcr⟩ := cons_size hp
      have RD := box RDS.out
      rw [hcr] at RD
      have C1 := box (take_ok 1 t false w.heap.size (w.heap.size + 1) wr M.out.R M.out.D (by omega) (by omega))
      obtain ⟨u, t1, hu, ht1, us, uc, tl1, t1s⟩ := split1 hcr
      rw [hu, ht1] at C1
      have C1' : Box (Calls Tryd.prog 53 #[.int .i64 1, .pointer (some ⟨w.heap.size, 0, none⟩), .pointer (some ⟨w.heap.size + 1, 0, none⟩)] wr fun e w' => e = .returned (.string u) ∧ Whole1 w' w.heap.size 9 #[.string t1] ∧ Whole1 w' (w.heap.size + 1) 4 #[.bool false] ∧ Turn w.heap.size (w.heap.size + 1) wr w') := C1
      have us0 : 0 < u.size := by omega
      have TL1 := box tl1
      clear hu ht1 hcr C1 tl1 hp
      have CC : c = 1 ∨ c = 2 ∨ c = 3 ∨ c = 4 ∨ c = 5 ∨ c = 6 ∨ (c.toNat = 0 ∨ 7 ≤ c.toNat) := by
        by_cases h0 : c.toNat = 0 ∨ 7 ≤ c.toNat
        · exact .inr (.inr (.inr (.inr (.inr (.inr h0)))))
        · have e : ∀ k : UInt8, c.toNat = k.toNat → c = k := fun k h => UInt8.toNat_inj.1 h
          rcases (show c.toNat = 1 ∨ c.toNat = 2 ∨ c.toNat = 3 ∨ c.toNat = 4 ∨ c.toNat = 5 ∨ c.toNat = 6 by omega) with h | h | h | h | h | h
          · exact .inl (e 1 h)
          · exact .inr (.inl (e 2 h))
          · exact .inr (.inr (.inl (e 3 h)))
          · exact .inr (.inr (.inr (.inl (e 4 h))))
          · exact .inr (.inr (.inr (.inr (.inl (e 5 h)))))
          · exact .inr (.inr (.inr (.inr (.inr (.inl (e 6 h))))))
      rcases CC with rfl | rfl | rfl | rfl | rfl | rfl | h07
      · have hu1 : ∀ h : 0 < u.size, (u[0]'h).toNat = 1 := uc
        clear uc
        go_wp2_with fail
        refine C1'.out.mono ?_
        rintro e w1 ⟨rfl, hR1, hD1, hT1⟩
        have M1 := box (M.out.turn ⟨hR1, hD1, hT1⟩)
        have q1 : w1.cell? ⟨w.heap.size + 1 + 1, 0, none⟩ = some (.func (.func 53) #[] #[.pointer (some ⟨w.heap.size, 0, none⟩), .pointer (some ⟨w.heap.size + 1, 0, none⟩)]) := M1.out.T.cell 0
        have s1 : wr.heap.size ≤ w1.heap.size := hT1.size
        have slo := M1.out.lo
        clear hR1 hD1 hT1 r0 d0 q0
        have M2 := box (M1.out.alloc (.cells #[.int .u8 0, .int .i64 0, .int .u64 0, .string ⟨#[]⟩] 24))
        have B2 := box (Whole1.made w1 24 #[.int .u8 0, .int .i64 0, .int .u64 0, .string ⟨#[]⟩])
        have q2 : (w1.alloc (.cells #[.int .u8 0, .int .i64 0, .int .u64 0, .string ⟨#[]⟩] 24)).cell? ⟨w.heap.size + 1 + 1, 0, none⟩ = some (.func (.func 53) #[] #[.pointer (some ⟨w.heap.size, 0, none⟩), .pointer (some ⟨w.heap.size + 1, 0, none⟩)]) := M2.out.T.cell 0
        go_wp2_with (at_builtin; refine append_val (w := (w1.alloc (.cells #[.int .u8 0, .int .i64 0, .int .u64 0, .string ⟨#[]⟩] 24))) rfl (.tmp 73) (.tmp 75) rfl w.heap.size _ _ xs rfl M2.out.own (nul 0) #[.int .u8 0, .int .i64 0, .int .u64 0, .string ⟨#[]⟩] rfl (w1.heap.size + 1) rfl ?c4 (by omega) ?c5 ?_ ?c6)
        case c4 => simp
        case c5 => have := M2.out.hi; omega
        case c6 => rfl
        intro v3 w3 ho hb hg
        obtain ⟨a3, cap3, rfl⟩ := own_any ho
        have M9 := box (M2.out.append ho hb hg)
        clear ho hb hg
        go_wp2_with fail
        go_roundw
        case rel => exact ⟨t1, false, xs ++ [(nul 0)], GetAt.next M9.out hsize (by omega) hl8 OKS.out (nul_ok 0 (by omega)) (by rw [TL1.out]; exact reads_null RD.out)⟩
        case measure => simp [lenV]; omega
      · by_cases hr : 0 < t1.size
        · have hu1 : ∀ h : 0 < u.size, (u[0]'h).toNat = 2 := uc
          clear uc
          go_wp2_with fail
          refine C1'.out.mono ?_
          rintro e w1 ⟨rfl, hR1, hD1, hT1⟩
          have M1 := box (M.out.turn ⟨hR1, hD1, hT1⟩)
          have q1 : w1.cell? ⟨w.heap.size + 1 + 1, 0, none⟩ = some (.func (.func 53) #[] #[.pointer (some ⟨w.heap.size, 0, none⟩), .pointer (some ⟨w.heap.size + 1, 0, none⟩)]) := M1.out.T.cell 0
          have s1 : wr.heap.size ≤ w1.heap.size := hT1.size
          have slo := M1.out.lo
          clear hR1 hD1 hT1 r0 d0 q0
          have M2 := box (M1.out.alloc (.cells #[.int .u8 1, .int .i64 0, .int .u64 0, .string ⟨#[]⟩] 24))
          have B2 := box (Whole1.made w1 24 #[.int .u8 1, .int .i64 0, .int .u64 0, .string ⟨#[]⟩])
          have q2 : (w1.alloc (.cells #[.int .u8 1, .int .i64 0, .int .u64 0, .string ⟨#[]⟩] 24)).cell? ⟨w.heap.size + 1 + 1, 0, none⟩ = some (.func (.func 53) #[] #[.pointer (some ⟨w.heap.size, 0, none⟩), .pointer (some ⟨w.heap.size + 1, 0, none⟩)]) := M2.out.T.cell 0
          obtain ⟨c2, r2, hcr2⟩ := cons_size hr
          have RD2 := box RD.out
          rw [TL1.out] at hcr2
          rw [hcr2] at RD2
          rw [← TL1.out] at hcr2
          have C2 := box (take_ok 1 t1 false w.heap.size (w.heap.size + 1) _ M2.out.R M2.out.D (by omega) (by omega))
          obtain ⟨u2, t2, hu2, ht2, us2, uc2, tl2, t2s⟩ := split1 hcr2
          rw [hu2, ht2] at C2
          obtain ⟨B, hB⟩ : ∃ B, c2.toNat = B := ⟨_, rfl⟩
          have HB := box hB
          have B256 : B < 256 := by rw [← hB]; exact c2.toNat_lt
          rw [hB] at uc2
          have us20 : 0 < u2.size := by omega
          have HW : Box (wrap64 ((u2[0]'us20).toNat : Int) = (B : Int)) := box (by rw [uc2]; unfold wrap64; omega)
          have TL2 := box tl2
          have BB := box B256
          clear hu2 ht2 hcr2 hB tl2 uc2 B256
          have us20 : 0 < u2.size := by omega
          have C2' : Box (Calls Tryd.prog 53 #[.int .i64 1, .pointer (some ⟨w.heap.size, 0, none⟩), .pointer (some ⟨w.heap.size + 1, 0, none⟩)] (w1.alloc (.cells #[.int .u8 1, .int .i64 0, .int .u64 0, .string ⟨#[]⟩] 24)) fun e w' => e = .returned (.string u2) ∧ Whole1 w' w.heap.size 9 #[.string t2] ∧ Whole1 w' (w.heap.size + 1) 4 #[.bool false] ∧ Turn w.heap.size (w.heap.size + 1) (w1.alloc (.cells #[.int .u8 1, .int .i64 0, .int .u64 0, .string ⟨#[]⟩] 24)) w') := C2
          clear C2
          go_wp2_with fail
          refine C2'.out.mono ?_
          rintro e w2 ⟨rfl, hR2, hD2, hT2⟩
          have M3 := box (M2.out.turn ⟨hR2, hD2, hT2⟩)
          have B3 := box (hT2.whole B2.out (by omega) (by omega))
          have p0 : w2.cell? ⟨w1.heap.size, 0, none⟩ = some (.int .u8 1) := B3.out.cell 0
          have p1 : w2.cell? ⟨w1.heap.size, 1, none⟩ = some (.int .i64 0) := B3.out.cell 1
          have p2 : w2.cell? ⟨w1.heap.size, 2, none⟩ = some (.int .u64 0) := B3.out.cell 2
          have p3 : w2.cell? ⟨w1.heap.size, 3, none⟩ = some (.string ⟨#[]⟩) := B3.out.cell 3
          have fz1 : w2.frozen? ⟨w1.heap.size, 1, none⟩ = false := B3.out.frozen 1
          have fz2 : w2.frozen? ⟨w1.heap.size, 2, none⟩ = false := B3.out.frozen 2
          have fz3 : w2.frozen? ⟨w1.heap.size, 3, none⟩ = false := B3.out.frozen 3
          clear hR2 hD2 hT2 q1 q2
          have M4 := box (M3.out.store (g := w1.heap.size) (by omega) 1 (.int .i64 (wrap64 ((u2[0]'us20).toNat : Int))))
          go_wp2_with (at_builtin; refine append_val (w := (w2.setCell ⟨w1.heap.size, 1, none⟩ (.int .i64 (wrap64 ((u2[0]'us20).toNat : Int))))) rfl (.tmp 73) (.tmp 75) rfl w.heap.size _ _ xs rfl M4.out.own ⟨1, (wrap64 ((u2[0]'us20).toNat : Int)), 0, ⟨#[]⟩⟩ #[.int .u8 1, .int .i64 (wrap64 ((u2[0]'us20).toNat : Int)), .int .u64 0, .string ⟨#[]⟩] rfl w2.heap.size rfl ?c4 (by omega) ?c5 ?_ ?c6)
          case c4 => simp [World.setCell]
          case c5 => have := M4.out.hi; omega
          case c6 => rfl
          intro v3 w3 ho hb hg
          obtain ⟨a3, cap3, rfl⟩ := own_any ho
          have M9 := box (M4.out.append ho hb hg)
          clear ho hb hg
          go_wp2_with fail
          go_roundw
          case rel => exact ⟨t2, false, xs ++ [⟨1, (wrap64 ((u2[0]'us20).toNat : Int)), 0, ⟨#[]⟩⟩], GetAt.next M9.out hsize (by omega) hl8 OKS.out (val_ok 1 (wrap64 ((u2[0]'us20).toNat : Int)) 0 ⟨#[]⟩ (by omega) (by rw [HW.out]; have := BB.out; omega) (by omega) (by show 0 ≤ _; omega)) (by rw [TL2.out, HW.out, ← HB.out]; exact reads_bool RD2.out)⟩
          case measure => simp [lenV]; omega
        · have hu1 : ∀ h : 0 < u.size, (u[0]'h).toNat = 2 := uc
          clear uc
          go_wp2_with fail
          refine C1'.out.mono ?_
          rintro e w1 ⟨rfl, hR1, hD1, hT1⟩
          have M1 := box (M.out.turn ⟨hR1, hD1, hT1⟩)
          have q1 : w1.cell? ⟨w.heap.size + 1 + 1, 0, none⟩ = some (.func (.func 53) #[] #[.pointer (some ⟨w.heap.size, 0, none⟩), .pointer (some ⟨w.heap.size + 1, 0, none⟩)]) := M1.out.T.cell 0
          have s1 : wr.heap.size ≤ w1.heap.size := hT1.size
          have slo := M1.out.lo
          clear hR1 hD1 hT1 r0 d0 q0
          have M2 := box (M1.out.alloc (.cells #[.int .u8 1, .int .i64 0, .int .u64 0, .string ⟨#[]⟩] 24))
          have B2 := box (Whole1.made w1 24 #[.int .u8 1, .int .i64 0, .int .u64 0, .string ⟨#[]⟩])
          have q2 : (w1.alloc (.cells #[.int .u8 1, .int .i64 0, .int .u64 0, .string ⟨#[]⟩] 24)).cell? ⟨w.heap.size + 1 + 1, 0, none⟩ = some (.func (.func 53) #[] #[.pointer (some ⟨w.heap.size, 0, none⟩), .pointer (some ⟨w.heap.size + 1, 0, none⟩)]) := M2.out.T.cell 0
          have r20 : r = [] := by rw [← TL1.out]; exact size0_nil (by omega)
          have RD2 := box RD.out
          rw [r20] at RD2
          have C2 := box (take_no 1 t1 false w.heap.size (w.heap.size + 1) _ M2.out.R M2.out.D (by omega) (by omega) (by omega))
          obtain ⟨u2, hu2, us2, uc2⟩ := zero1
          rw [hu2] at C2
          have B256 : 0 < 256 := by omega
          clear hu2 r20
          have us20 : 0 < u2.size := by omega
          have C2' : Box (Calls Tryd.prog 53 #[.int .i64 1, .pointer (some ⟨w.heap.size, 0, none⟩), .pointer (some ⟨w.heap.size + 1, 0, none⟩)] (w1.alloc (.cells #[.int .u8 1, .int .i64 0, .int .u64 0, .string ⟨#[]⟩] 24)) fun e w' => e = .returned (.string u2) ∧ Whole1 w' w.heap.size 9 #[.string t1] ∧ Whole1 w' (w.heap.size + 1) 4 #[.bool true] ∧ Turn w.heap.size (w.heap.size + 1) (w1.alloc (.cells #[.int .u8 1, .int .i64 0, .int .u64 0, .string ⟨#[]⟩] 24)) w') := C2
          clear C2
          go_wp2_with fail
          refine C2'.out.mono ?_
          rintro e w2 ⟨rfl, hR2, hD2, hT2⟩
          have M3 := box (M2.out.turn ⟨hR2, hD2, hT2⟩)
          have B3 := box (hT2.whole B2.out (by omega) (by omega))
          have p0 : w2.cell? ⟨w1.heap.size, 0, none⟩ = some (.int .u8 1) := B3.out.cell 0
          have p1 : w2.cell? ⟨w1.heap.size, 1, none⟩ = some (.int .i64 0) := B3.out.cell 1
          have p2 : w2.cell? ⟨w1.heap.size, 2, none⟩ = some (.int .u64 0) := B3.out.cell 2
          have p3 : w2.cell? ⟨w1.heap.size, 3, none⟩ = some (.string ⟨#[]⟩) := B3.out.cell 3
          have fz1 : w2.frozen? ⟨w1.heap.size, 1, none⟩ = false := B3.out.frozen 1
          have fz2 : w2.frozen? ⟨w1.heap.size, 2, none⟩ = false := B3.out.frozen 2
          have fz3 : w2.frozen? ⟨w1.heap.size, 3, none⟩ = false := B3.out.frozen 3
          clear hR2 hD2 hT2 q1 q2
          have M4 := box (M3.out.store (g := w1.heap.size) (by omega) 1 (.int .i64 0))
          go_wp2_with (at_builtin; refine append_val (w := (w2.setCell ⟨w1.heap.size, 1, none⟩ (.int .i64 0))) rfl (.tmp 73) (.tmp 75) rfl w.heap.size _ _ xs rfl M4.out.own ⟨1, 0, 0, ⟨#[]⟩⟩ #[.int .u8 1, .int .i64 0, .int .u64 0, .string ⟨#[]⟩] rfl w2.heap.size rfl ?c4 (by omega) ?c5 ?_ ?c6)
          case c4 => simp [World.setCell]
          case c5 => have := M4.out.hi; omega
          case c6 => rfl
          intro v3 w3 ho hb hg
          obtain ⟨a3, cap3, rfl⟩ := own_any ho
          have M9 := box (M4.out.append ho hb hg)
          clear ho hb hg
          go_wp2_with fail
          go_roundw
          case rel => exact ⟨t1, true, xs ++ [⟨1, 0, 0, ⟨#[]⟩⟩], GetAt.next M9.out hsize (by omega) hl8 OKS.out (val_ok 1 0 0 ⟨#[]⟩ (by omega) (by omega) (by omega) (by show 0 ≤ _; omega)) (reads_bool_bad RD2.out _ _)⟩
          case measure => simp [lenV]; omega
      · by_cases hr : 8 ≤ t1.size
        · have hu1 : ∀ h : 0 < u.size, (u[0]'h).toNat = 3 := uc
          clear uc
          go_wp2_with fail
          refine C1'.out.mono ?_
          rintro e w1 ⟨rfl, hR1, hD1, hT1⟩
          have M1 := box (M.out.turn ⟨hR1, hD1, hT1⟩)
          have q1 : w1.cell? ⟨w.heap.size + 1 + 1, 0, none⟩ = some (.func (.func 53) #[] #[.pointer (some ⟨w.heap.size, 0, none⟩), .pointer (some ⟨w.heap.size + 1, 0, none⟩)]) := M1.out.T.cell 0
          have s1 : wr.heap.size ≤ w1.heap.size := hT1.size
          have slo := M1.out.lo
          clear hR1 hD1 hT1 r0 d0 q0
          have M2 := box (M1.out.alloc (.cells #[.int .u8 2, .int .i64 0, .int .u64 0, .string ⟨#[]⟩] 24))
          have B2 := box (Whole1.made w1 24 #[.int .u8 2, .int .i64 0, .int .u64 0, .string ⟨#[]⟩])
          have q2 : (w1.alloc (.cells #[.int .u8 2, .int .i64 0, .int .u64 0, .string ⟨#[]⟩] 24)).cell? ⟨w.heap.size + 1 + 1, 0, none⟩ = some (.func (.func 53) #[] #[.pointer (some ⟨w.heap.size, 0, none⟩), .pointer (some ⟨w.heap.size + 1, 0, none⟩)]) := M2.out.T.cell 0
          have C2 := box (number_ok t1 false w.heap.size (w.heap.size + 1) (w.heap.size + 2) _ M2.out.R M2.out.D M2.out.T (by omega) hr)
          obtain ⟨t2, ht2⟩ : ∃ t2, t1.extract 8 t1.size = t2 := ⟨_, rfl⟩
          have TL2 : Box (t2.data.toList = r.drop 8) := box (by rw [← ht2, Lib.extract_to_end, TL1.out])
          have t2s : t2.size ≤ t1.size := by rw [← ht2, ByteArray.size_extract]; omega
          have hz8 := num8 t1.data.toList
          have HZ : Box (Kl.num (t1.data.toList.take 8) = Kl.num (r.take 8)) := box (by rw [TL1.out])
          rw [ht2] at C2
          obtain ⟨z, hz⟩ : ∃ z, Kl.num (t1.data.toList.take 8) = z := ⟨_, rfl⟩
          rw [hz] at C2 hz8 HZ
          have hrl : Box (¬ r.length < 8) := box (by rw [← TL1.out, list_size]; omega)
          clear ht2 hz
          have C2' : Box (Calls Tryd.prog 55 #[.pointer (some ⟨w.heap.size + 1 + 1, 0, none⟩)] (w1.alloc (.cells #[.int .u8 2, .int .i64 0, .int .u64 0, .string ⟨#[]⟩] 24)) fun e w' => e = .returned (.int .u64 (z : Nat)) ∧ Whole1 w' w.heap.size 9 #[.string t2] ∧ Whole1 w' (w.heap.size + 1) 4 #[.bool false] ∧ Turn w.heap.size (w.heap.size + 1) (w1.alloc (.cells #[.int .u8 2, .int .i64 0, .int .u64 0, .string ⟨#[]⟩] 24)) w') := C2
          clear C2
          have hfl := unflip_bits z hz8
          have Z8 := box hz8
          clear hz8
          go_wp2_with fail
          refine C2'.out.mono ?_
          rintro e w2 ⟨rfl, hR2, hD2, hT2⟩
          have M3 := box (M2.out.turn ⟨hR2, hD2, hT2⟩)
          have B3 := box (hT2.whole B2.out (by omega) (by omega))
          have p0 : w2.cell? ⟨w1.heap.size, 0, none⟩ = some (.int .u8 2) := B3.out.cell 0
          have p1 : w2.cell? ⟨w1.heap.size, 1, none⟩ = some (.int .i64 0) := B3.out.cell 1
          have p2 : w2.cell? ⟨w1.heap.size, 2, none⟩ = some (.int .u64 0) := B3.out.cell 2
          have p3 : w2.cell? ⟨w1.heap.size, 3, none⟩ = some (.string ⟨#[]⟩) := B3.out.cell 3
          have fz1 : w2.frozen? ⟨w1.heap.size, 1, none⟩ = false := B3.out.frozen 1
          have fz2 : w2.frozen? ⟨w1.heap.size, 2, none⟩ = false := B3.out.frozen 2
          have fz3 : w2.frozen? ⟨w1.heap.size, 3, none⟩ = false := B3.out.frozen 3
          clear hR2 hD2 hT2 q1 q2
          have M4 := box (M3.out.store (g := w1.heap.size) (by omega) 1 (.int .i64 ((z : Int) - 9223372036854775808)))
          go_wp2_with (at_builtin; refine append_val (w := (w2.setCell ⟨w1.heap.size, 1, none⟩ (.int .i64 ((z : Int) - 9223372036854775808)))) rfl (.tmp 73) (.tmp 75) rfl w.heap.size _ _ xs rfl M4.out.own ⟨2, (z : Int) - 9223372036854775808, 0, ⟨#[]⟩⟩ #[.int .u8 2, .int .i64 ((z : Int) - 9223372036854775808), .int .u64 0, .string ⟨#[]⟩] rfl w2.heap.size rfl ?c4 (by omega) ?c5 ?_ ?c6)
          case c4 => simp [World.setCell]
          case c5 => have := M4.out.hi; omega
          case c6 => rfl
          intro v3 w3 ho hb hg
          obtain ⟨a3, cap3, rfl⟩ := own_any ho
          have M9 := box (M4.out.append ho hb hg)
          clear ho hb hg
          go_wp2_with fail
          go_roundw
          case rel => exact ⟨t2, false, xs ++ [⟨2, (z : Int) - 9223372036854775808, 0, ⟨#[]⟩⟩], GetAt.next M9.out hsize (by omega) hl8 OKS.out (val_ok 2 _ 0 ⟨#[]⟩ (by omega) (by have := Z8.out; omega) (by omega) (by show 0 ≤ _; omega)) (by rw [TL2.out, ← Int.toNat_natCast z, Int.toNat_natCast, HZ.out]; have h := reads_int RD.out; rw [decide_eq_false hrl.out] at h; exact h)⟩
          case measure => simp [lenV]; omega
        · have hu1 : ∀ h : 0 < u.size, (u[0]'h).toNat = 3 := uc
          clear uc
          go_wp2_with fail
          refine C1'.out.mono ?_
          rintro e w1 ⟨rfl, hR1, hD1, hT1⟩
          have M1 := box (M.out.turn ⟨hR1, hD1, hT1⟩)
          have q1 : w1.cell? ⟨w.heap.size + 1 + 1, 0, none⟩ = some (.func (.func 53) #[] #[.pointer (some ⟨w.heap.size, 0, none⟩), .pointer (some ⟨w.heap.size + 1, 0, none⟩)]) := M1.out.T.cell 0
          have s1 : wr.heap.size ≤ w1.heap.size := hT1.size
          have slo := M1.out.lo
          clear hR1 hD1 hT1 r0 d0 q0
          have M2 := box (M1.out.alloc (.cells #[.int .u8 2, .int .i64 0, .int .u64 0, .string ⟨#[]⟩] 24))
          have B2 := box (Whole1.made w1 24 #[.int .u8 2, .int .i64 0, .int .u64 0, .string ⟨#[]⟩])
          have q2 : (w1.alloc (.cells #[.int .u8 2, .int .i64 0, .int .u64 0, .string ⟨#[]⟩] 24)).cell? ⟨w.heap.size + 1 + 1, 0, none⟩ = some (.func (.func 53) #[] #[.pointer (some ⟨w.heap.size, 0, none⟩), .pointer (some ⟨w.heap.size + 1, 0, none⟩)]) := M2.out.T.cell 0
          have C2 := box (number_no t1 false w.heap.size (w.heap.size + 1) (w.heap.size + 2) _ M2.out.R M2.out.D M2.out.T (by omega) (by omega))
          obtain ⟨z, hz⟩ : ∃ z : Nat, z = 0 := ⟨_, rfl⟩
          have hz8 : z < 18446744073709551616 := by omega
          have hrl : Box (r.length < 8) := box (by rw [← TL1.out, list_size]; omega)
          have C2' : Box (Calls Tryd.prog 55 #[.pointer (some ⟨w.heap.size + 1 + 1, 0, none⟩)] (w1.alloc (.cells #[.int .u8 2, .int .i64 0, .int .u64 0, .string ⟨#[]⟩] 24)) fun e w' => e = .returned (.int .u64 (z : Nat)) ∧ Whole1 w' w.heap.size 9 #[.string t1] ∧ Whole1 w' (w.heap.size + 1) 4 #[.bool true] ∧ Turn w.heap.size (w.heap.size + 1) (w1.alloc (.cells #[.int .u8 2, .int .i64 0, .int .u64 0, .string ⟨#[]⟩] 24)) w') := by rw [hz]; exact C2
          clear C2
          clear hz
          have hfl := unflip_bits z hz8
          have Z8 := box hz8
          clear hz8
          go_wp2_with fail
          refine C2'.out.mono ?_
          rintro e w2 ⟨rfl, hR2, hD2, hT2⟩
          have M3 := box (M2.out.turn ⟨hR2, hD2, hT2⟩)
          have B3 := box (hT2.whole B2.out (by omega) (by omega))
          have p0 : w2.cell? ⟨w1.heap.size, 0, none⟩ = some (.int .u8 2) := B3.out.cell 0
          have p1 : w2.cell? ⟨w1.heap.size, 1, none⟩ = some (.int .i64 0) := B3.out.cell 1
          have p2 : w2.cell? ⟨w1.heap.size, 2, none⟩ = some (.int .u64 0) := B3.out.cell 2
          have p3 : w2.cell? ⟨w1.heap.size, 3, none⟩ = some (.string ⟨#[]⟩) := B3.out.cell 3
          have fz1 : w2.frozen? ⟨w1.heap.size, 1, none⟩ = false := B3.out.frozen 1
          have fz2 : w2.frozen? ⟨w1.heap.size, 2, none⟩ = false := B3.out.frozen 2
          have fz3 : w2.frozen? ⟨w1.heap.size, 3, none⟩ = false := B3.out.frozen 3
          clear hR2 hD2 hT2 q1 q2
          have M4 := box (M3.out.store (g := w1.heap.size) (by omega) 1 (.int .i64 ((z : Int) - 9223372036854775808)))
          go_wp2_with (at_builtin; refine append_val (w := (w2.setCell ⟨w1.heap.size, 1, none⟩ (.int .i64 ((z : Int) - 9223372036854775808)))) rfl (.tmp 73) (.tmp 75) rfl w.heap.size _ _ xs rfl M4.out.own ⟨2, (z : Int) - 9223372036854775808, 0, ⟨#[]⟩⟩ #[.int .u8 2, .int .i64 ((z : Int) - 9223372036854775808), .int .u64 0, .string ⟨#[]⟩] rfl w2.heap.size rfl ?c4 (by omega) ?c5 ?_ ?c6)
          case c4 => simp [World.setCell]
          case c5 => have := M4.out.hi; omega
          case c6 => rfl
          intro v3 w3 ho hb hg
          obtain ⟨a3, cap3, rfl⟩ := own_any ho
          have M9 := box (M4.out.append ho hb hg)
          clear ho hb hg
          go_wp2_with fail
          go_roundw
          case rel => exact ⟨t1, true, xs ++ [⟨2, (z : Int) - 9223372036854775808, 0, ⟨#[]⟩⟩], GetAt.next M9.out hsize (by omega) hl8 OKS.out (val_ok 2 _ 0 ⟨#[]⟩ (by omega) (by have := Z8.out; omega) (by omega) (by show 0 ≤ _; omega)) (reads_num_bad RD.out (.inl rfl) hrl.out _ _)⟩
          case measure => simp [lenV]; omega
      · by_cases hr : 8 ≤ t1.size
        · have hu1 : ∀ h : 0 < u.size, (u[0]'h).toNat = 4 := uc
          clear uc
          go_wp2_with fail
          refine C1'.out.mono ?_
          rintro e w1 ⟨rfl, hR1, hD1, hT1⟩
          have M1 := box (M.out.turn ⟨hR1, hD1, hT1⟩)
          have q1 : w1.cell? ⟨w.heap.size + 1 + 1, 0, none⟩ = some (.func (.func 53) #[] #[.pointer (some ⟨w.heap.size, 0, none⟩), .pointer (some ⟨w.heap.size + 1, 0, none⟩)]) := M1.out.T.cell 0
          have s1 : wr.heap.size ≤ w1.heap.size := hT1.size
          have slo := M1.out.lo
          clear hR1 hD1 hT1 r0 d0 q0
          have M2 := box (M1.out.alloc (.cells #[.int .u8 3, .int .i64 0, .int .u64 0, .string ⟨#[]⟩] 24))
          have B2 := box (Whole1.made w1 24 #[.int .u8 3, .int .i64 0, .int .u64 0, .string ⟨#[]⟩])
          have q2 : (w1.alloc (.cells #[.int .u8 3, .int .i64 0, .int .u64 0, .string ⟨#[]⟩] 24)).cell? ⟨w.heap.size + 1 + 1, 0, none⟩ = some (.func (.func 53) #[] #[.pointer (some ⟨w.heap.size, 0, none⟩), .pointer (some ⟨w.heap.size + 1, 0, none⟩)]) := M2.out.T.cell 0
          have C2 := box (number_ok t1 false w.heap.size (w.heap.size + 1) (w.heap.size + 2) _ M2.out.R M2.out.D M2.out.T (by omega) hr)
          obtain ⟨t2, ht2⟩ : ∃ t2, t1.extract 8 t1.size = t2 := ⟨_, rfl⟩
          have TL2 : Box (t2.data.toList = r.drop 8) := box (by rw [← ht2, Lib.extract_to_end, TL1.out])
          have t2s : t2.size ≤ t1.size := by rw [← ht2, ByteArray.size_extract]; omega
          have hz8 := num8 t1.data.toList
          have HZ : Box (Kl.num (t1.data.toList.take 8) = Kl.num (r.take 8)) := box (by rw [TL1.out])
          rw [ht2] at C2
          obtain ⟨z, hz⟩ : ∃ z, Kl.num (t1.data.toList.take 8) = z := ⟨_, rfl⟩
          rw [hz] at C2 hz8 HZ
          have hrl : Box (¬ r.length < 8) := box (by rw [← TL1.out, list_size]; omega)
          clear ht2 hz
          have C2' : Box (Calls Tryd.prog 55 #[.pointer (some ⟨w.heap.size + 1 + 1, 0, none⟩)] (w1.alloc (.cells #[.int .u8 3, .int .i64 0, .int .u64 0, .string ⟨#[]⟩] 24)) fun e w' => e = .returned (.int .u64 (z : Nat)) ∧ Whole1 w' w.heap.size 9 #[.string t2] ∧ Whole1 w' (w.heap.size + 1) 4 #[.bool false] ∧ Turn w.heap.size (w.heap.size + 1) (w1.alloc (.cells #[.int .u8 3, .int .i64 0, .int .u64 0, .string ⟨#[]⟩] 24)) w') := C2
          clear C2
          have C58 := box (fun W => back_any z W hz8)
          have XL := box (back_lt z hz8)
          have BE := back_err z
          obtain ⟨X, hX⟩ : ∃ X, (back z).1 = X := ⟨_, rfl⟩
          obtain ⟨Er, hEr⟩ : ∃ Er, (back z).2 = Er := ⟨_, rfl⟩
          rw [hX, hEr] at C58
          rw [hX] at XL
          rw [hEr] at BE
          have HX := box hX
          have HEr := box hEr
          clear hX hEr hz8
          rcases BE with rfl | rfl
          · go_wp2_with fail
            refine C2'.out.mono ?_
            rintro e w2 ⟨rfl, hR2, hD2, hT2⟩
            have M3 := box (M2.out.turn ⟨hR2, hD2, hT2⟩)
            have S2 := box hT2
            clear hR2 hD2 hT2 q1 q2
            go_wp2_with fail
            refine (C58.out _).mono ?_
            rintro e w4 ⟨rfl, hb4⟩
            have M3b := box (M3.out.call hb4)
            have d4 : w4.cell? ⟨w.heap.size + 1, 0, none⟩ = some (.bool false) := M3b.out.D.cell 0
            have fd4 : w4.frozen? ⟨w.heap.size + 1, 0, none⟩ = false := M3b.out.D.frozen 0
            have B3 := box ((S2.out.whole B2.out (by omega) (by omega)).below hb4 (S2.out.whole B2.out (by omega) (by omega)).lt)
            have p0 : w4.cell? ⟨w1.heap.size, 0, none⟩ = some (.int .u8 3) := B3.out.cell 0
            have p1 : w4.cell? ⟨w1.heap.size, 1, none⟩ = some (.int .i64 0) := B3.out.cell 1
            have p2 : w4.cell? ⟨w1.heap.size, 2, none⟩ = some (.int .u64 0) := B3.out.cell 2
            have p3 : w4.cell? ⟨w1.heap.size, 3, none⟩ = some (.string ⟨#[]⟩) := B3.out.cell 3
            have fz1 : w4.frozen? ⟨w1.heap.size, 1, none⟩ = false := B3.out.frozen 1
            have fz2 : w4.frozen? ⟨w1.heap.size, 2, none⟩ = false := B3.out.frozen 2
            have fz3 : w4.frozen? ⟨w1.heap.size, 3, none⟩ = false := B3.out.frozen 3
            clear hb4
            have M4 := box ((M3b.out.store (g := w1.heap.size) (by omega) 2 (.int .u64 (X : Nat))).setD false)
            go_wp2_with (at_builtin; refine append_val (w := ((w4.setCell ⟨w1.heap.size, 2, none⟩ (.int .u64 (X : Nat))).setCell ⟨w.heap.size + 1, 0, none⟩ (.bool false))) rfl (.tmp 73) (.tmp 75) rfl w.heap.size _ _ xs rfl M4.out.own ⟨3, 0, X, ⟨#[]⟩⟩ #[.int .u8 3, .int .i64 0, .int .u64 (X : Nat), .string ⟨#[]⟩] rfl w4.heap.size rfl ?c4 (by omega) ?c5 ?_ ?c6)
            case c4 => simp [World.setCell]
            case c5 => have := M4.out.hi; omega
            case c6 => rfl
            intro v3 w3 ho hb hg
            obtain ⟨a3, cap3, rfl⟩ := own_any ho
            have M9 := box (M4.out.append ho hb hg)
            clear ho hb hg
            go_wp2_with fail
            go_roundw
            case rel => exact ⟨t2, false, xs ++ [⟨3, 0, X, ⟨#[]⟩⟩], GetAt.next M9.out hsize (by omega) hl8 OKS.out (val_ok 3 0 X ⟨#[]⟩ (by omega) (by omega) XL.out (by show 0 ≤ _; omega)) (by rw [TL2.out]; have h := reads_real RD.out; rw [decide_eq_false hrl.out, ← HZ.out, HX.out, HEr.out] at h; exact h)⟩
            case measure => simp [lenV]; omega
          · go_wp2_with fail
            refine C2'.out.mono ?_
            rintro e w2 ⟨rfl, hR2, hD2, hT2⟩
            have M3 := box (M2.out.turn ⟨hR2, hD2, hT2⟩)
            have S2 := box hT2
            clear hR2 hD2 hT2 q1 q2
            go_wp2_with fail
            refine (C58.out _).mono ?_
            rintro e w4 ⟨rfl, hb4⟩
            have M3b := box (M3.out.call hb4)
            have d4 : w4.cell? ⟨w.heap.size + 1, 0, none⟩ = some (.bool false) := M3b.out.D.cell 0
            have fd4 : w4.frozen? ⟨w.heap.size + 1, 0, none⟩ = false := M3b.out.D.frozen 0
            have B3 := box ((S2.out.whole B2.out (by omega) (by omega)).below hb4 (S2.out.whole B2.out (by omega) (by omega)).lt)
            have p0 : w4.cell? ⟨w1.heap.size, 0, none⟩ = some (.int .u8 3) := B3.out.cell 0
            have p1 : w4.cell? ⟨w1.heap.size, 1, none⟩ = some (.int .i64 0) := B3.out.cell 1
            have p2 : w4.cell? ⟨w1.heap.size, 2, none⟩ = some (.int .u64 0) := B3.out.cell 2
            have p3 : w4.cell? ⟨w1.heap.size, 3, none⟩ = some (.string ⟨#[]⟩) := B3.out.cell 3
            have fz1 : w4.frozen? ⟨w1.heap.size, 1, none⟩ = false := B3.out.frozen 1
            have fz2 : w4.frozen? ⟨w1.heap.size, 2, none⟩ = false := B3.out.frozen 2
            have fz3 : w4.frozen? ⟨w1.heap.size, 3, none⟩ = false := B3.out.frozen 3
            clear hb4
            have M4 := box ((M3b.out.store (g := w1.heap.size) (by omega) 2 (.int .u64 (X : Nat))).setD true)
            go_wp2_with (at_builtin; refine append_val (w := ((w4.setCell ⟨w1.heap.size, 2, none⟩ (.int .u64 (X : Nat))).setCell ⟨w.heap.size + 1, 0, none⟩ (.bool true))) rfl (.tmp 73) (.tmp 75) rfl w.heap.size _ _ xs rfl M4.out.own ⟨3, 0, X, ⟨#[]⟩⟩ #[.int .u8 3, .int .i64 0, .int .u64 (X : Nat), .string ⟨#[]⟩] rfl w4.heap.size rfl ?c4 (by omega) ?c5 ?_ ?c6)
            case c4 => simp [World.setCell]
            case c5 => have := M4.out.hi; omega
            case c6 => rfl
            intro v3 w3 ho hb hg
            obtain ⟨a3, cap3, rfl⟩ := own_any ho
            have M9 := box (M4.out.append ho hb hg)
            clear ho hb hg
            go_wp2_with fail
            go_roundw
            case rel => exact ⟨t2, true, xs ++ [⟨3, 0, X, ⟨#[]⟩⟩], GetAt.next M9.out hsize (by omega) hl8 OKS.out (val_ok 3 0 X ⟨#[]⟩ (by omega) (by omega) XL.out (by show 0 ≤ _; omega)) (by rw [TL2.out]; have h := reads_real RD.out; rw [decide_eq_false hrl.out, ← HZ.out, HX.out, HEr.out] at h; exact h)⟩
            case measure => simp [lenV]; omega
        · have hu1 : ∀ h : 0 < u.size, (u[0]'h).toNat = 4 := uc
          clear uc
          go_wp2_with fail
          refine C1'.out.mono ?_
          rintro e w1 ⟨rfl, hR1, hD1, hT1⟩
          have M1 := box (M.out.turn ⟨hR1, hD1, hT1⟩)
          have q1 : w1.cell? ⟨w.heap.size + 1 + 1, 0, none⟩ = some (.func (.func 53) #[] #[.pointer (some ⟨w.heap.size, 0, none⟩), .pointer (some ⟨w.heap.size + 1, 0, none⟩)]) := M1.out.T.cell 0
          have s1 : wr.heap.size ≤ w1.heap.size := hT1.size
          have slo := M1.out.lo
          clear hR1 hD1 hT1 r0 d0 q0
          have M2 := box (M1.out.alloc (.cells #[.int .u8 3, .int .i64 0, .int .u64 0, .string ⟨#[]⟩] 24))
          have B2 := box (Whole1.made w1 24 #[.int .u8 3, .int .i64 0, .int .u64 0, .string ⟨#[]⟩])
          have q2 : (w1.alloc (.cells #[.int .u8 3, .int .i64 0, .int .u64 0, .string ⟨#[]⟩] 24)).cell? ⟨w.heap.size + 1 + 1, 0, none⟩ = some (.func (.func 53) #[] #[.pointer (some ⟨w.heap.size, 0, none⟩), .pointer (some ⟨w.heap.size + 1, 0, none⟩)]) := M2.out.T.cell 0
          have C2 := box (number_no t1 false w.heap.size (w.heap.size + 1) (w.heap.size + 2) _ M2.out.R M2.out.D M2.out.T (by omega) (by omega))
          obtain ⟨z, hz⟩ : ∃ z : Nat, z = 0 := ⟨_, rfl⟩
          have hz8 : z < 18446744073709551616 := by omega
          have hrl : Box (r.length < 8) := box (by rw [← TL1.out, list_size]; omega)
          have C2' : Box (Calls Tryd.prog 55 #[.pointer (some ⟨w.heap.size + 1 + 1, 0, none⟩)] (w1.alloc (.cells #[.int .u8 3, .int .i64 0, .int .u64 0, .string ⟨#[]⟩] 24)) fun e w' => e = .returned (.int .u64 (z : Nat)) ∧ Whole1 w' w.heap.size 9 #[.string t1] ∧ Whole1 w' (w.heap.size + 1) 4 #[.bool true] ∧ Turn w.heap.size (w.heap.size + 1) (w1.alloc (.cells #[.int .u8 3, .int .i64 0, .int .u64 0, .string ⟨#[]⟩] 24)) w') := by rw [hz]; exact C2
          clear C2
          clear hz
          have C58 := box (fun W => back_any z W hz8)
          have XL := box (back_lt z hz8)
          have BE := back_err z
          obtain ⟨X, hX⟩ : ∃ X, (back z).1 = X := ⟨_, rfl⟩
          obtain ⟨Er, hEr⟩ : ∃ Er, (back z).2 = Er := ⟨_, rfl⟩
          rw [hX, hEr] at C58
          rw [hX] at XL
          rw [hEr] at BE
          have HX := box hX
          have HEr := box hEr
          clear hX hEr hz8
          rcases BE with rfl | rfl
          · go_wp2_with fail
            refine C2'.out.mono ?_
            rintro e w2 ⟨rfl, hR2, hD2, hT2⟩
            have M3 := box (M2.out.turn ⟨hR2, hD2, hT2⟩)
            have S2 := box hT2
            clear hR2 hD2 hT2 q1 q2
            go_wp2_with fail
            refine (C58.out _).mono ?_
            rintro e w4 ⟨rfl, hb4⟩
            have M3b := box (M3.out.call hb4)
            have d4 : w4.cell? ⟨w.heap.size + 1, 0, none⟩ = some (.bool true) := M3b.out.D.cell 0
            have fd4 : w4.frozen? ⟨w.heap.size + 1, 0, none⟩ = false := M3b.out.D.frozen 0
            have B3 := box ((S2.out.whole B2.out (by omega) (by omega)).below hb4 (S2.out.whole B2.out (by omega) (by omega)).lt)
            have p0 : w4.cell? ⟨w1.heap.size, 0, none⟩ = some (.int .u8 3) := B3.out.cell 0
            have p1 : w4.cell? ⟨w1.heap.size, 1, none⟩ = some (.int .i64 0) := B3.out.cell 1
            have p2 : w4.cell? ⟨w1.heap.size, 2, none⟩ = some (.int .u64 0) := B3.out.cell 2
            have p3 : w4.cell? ⟨w1.heap.size, 3, none⟩ = some (.string ⟨#[]⟩) := B3.out.cell 3
            have fz1 : w4.frozen? ⟨w1.heap.size, 1, none⟩ = false := B3.out.frozen 1
            have fz2 : w4.frozen? ⟨w1.heap.size, 2, none⟩ = false := B3.out.frozen 2
            have fz3 : w4.frozen? ⟨w1.heap.size, 3, none⟩ = false := B3.out.frozen 3
            clear hb4
            have M4 := box ((M3b.out.store (g := w1.heap.size) (by omega) 2 (.int .u64 (X : Nat))).setD true)
            go_wp2_with (at_builtin; refine append_val (w := ((w4.setCell ⟨w1.heap.size, 2, none⟩ (.int .u64 (X : Nat))).setCell ⟨w.heap.size + 1, 0, none⟩ (.bool true))) rfl (.tmp 73) (.tmp 75) rfl w.heap.size _ _ xs rfl M4.out.own ⟨3, 0, X, ⟨#[]⟩⟩ #[.int .u8 3, .int .i64 0, .int .u64 (X : Nat), .string ⟨#[]⟩] rfl w4.heap.size rfl ?c4 (by omega) ?c5 ?_ ?c6)
            case c4 => simp [World.setCell]
            case c5 => have := M4.out.hi; omega
            case c6 => rfl
            intro v3 w3 ho hb hg
            obtain ⟨a3, cap3, rfl⟩ := own_any ho
            have M9 := box (M4.out.append ho hb hg)
            clear ho hb hg
            go_wp2_with fail
            go_roundw
            case rel => exact ⟨t1, true, xs ++ [⟨3, 0, X, ⟨#[]⟩⟩], GetAt.next M9.out hsize (by omega) hl8 OKS.out (val_ok 3 0 X ⟨#[]⟩ (by omega) (by omega) XL.out (by show 0 ≤ _; omega)) (reads_num_bad RD.out (.inr rfl) hrl.out _ _)⟩
            case measure => simp [lenV]; omega
          · go_wp2_with fail
            refine C2'.out.mono ?_
            rintro e w2 ⟨rfl, hR2, hD2, hT2⟩
            have M3 := box (M2.out.turn ⟨hR2, hD2, hT2⟩)
            have S2 := box hT2
            clear hR2 hD2 hT2 q1 q2
            go_wp2_with fail
            refine (C58.out _).mono ?_
            rintro e w4 ⟨rfl, hb4⟩
            have M3b := box (M3.out.call hb4)
            have d4 : w4.cell? ⟨w.heap.size + 1, 0, none⟩ = some (.bool true) := M3b.out.D.cell 0
            have fd4 : w4.frozen? ⟨w.heap.size + 1, 0, none⟩ = false := M3b.out.D.frozen 0
            have B3 := box ((S2.out.whole B2.out (by omega) (by omega)).below hb4 (S2.out.whole B2.out (by omega) (by omega)).lt)
            have p0 : w4.cell? ⟨w1.heap.size, 0, none⟩ = some (.int .u8 3) := B3.out.cell 0
            have p1 : w4.cell? ⟨w1.heap.size, 1, none⟩ = some (.int .i64 0) := B3.out.cell 1
            have p2 : w4.cell? ⟨w1.heap.size, 2, none⟩ = some (.int .u64 0) := B3.out.cell 2
            have p3 : w4.cell? ⟨w1.heap.size, 3, none⟩ = some (.string ⟨#[]⟩) := B3.out.cell 3
            have fz1 : w4.frozen? ⟨w1.heap.size, 1, none⟩ = false := B3.out.frozen 1
            have fz2 : w4.frozen? ⟨w1.heap.size, 2, none⟩ = false := B3.out.frozen 2
            have fz3 : w4.frozen? ⟨w1.heap.size, 3, none⟩ = false := B3.out.frozen 3
            clear hb4
            have M4 := box ((M3b.out.store (g := w1.heap.size) (by omega) 2 (.int .u64 (X : Nat))).setD true)
            go_wp2_with (at_builtin; refine append_val (w := ((w4.setCell ⟨w1.heap.size, 2, none⟩ (.int .u64 (X : Nat))).setCell ⟨w.heap.size + 1, 0, none⟩ (.bool true))) rfl (.tmp 73) (.tmp 75) rfl w.heap.size _ _ xs rfl M4.out.own ⟨3, 0, X, ⟨#[]⟩⟩ #[.int .u8 3, .int .i64 0, .int .u64 (X : Nat), .string ⟨#[]⟩] rfl w4.heap.size rfl ?c4 (by omega) ?c5 ?_ ?c6)
            case c4 => simp [World.setCell]
            case c5 => have := M4.out.hi; omega
            case c6 => rfl
            intro v3 w3 ho hb hg
            obtain ⟨a3, cap3, rfl⟩ := own_any ho
            have M9 := box (M4.out.append ho hb hg)
            clear ho hb hg
            go_wp2_with fail
            go_roundw
            case rel => exact ⟨t1, true, xs ++ [⟨3, 0, X, ⟨#[]⟩⟩], GetAt.next M9.out hsize (by omega) hl8 OKS.out (val_ok 3 0 X ⟨#[]⟩ (by omega) (by omega) XL.out (by show 0 ≤ _; omega)) (reads_num_bad RD.out (.inr rfl) hrl.out _ _)⟩
            case measure => simp [lenV]; omega
      · have hge := Lib.index_ge t1.data.toList [0, 1]
        rcases (show Lib.index t1.data.toList [0, 1] = -1 ∨ ∃ i : Nat, Lib.index t1.data.toList [0, 1] = i by
          by_cases h : Lib.index t1.data.toList [0, 1] = -1
          · exact .inl h
          · exact .inr ⟨(Lib.index t1.data.toList [0, 1]).toNat, by omega⟩) with hi | ⟨i, hi⟩
        · clear hge
          have hu1 : ∀ h : 0 < u.size, (u[0]'h).toNat = 5 := uc
          clear uc
          go_wp2_with fail
          refine C1'.out.mono ?_
          rintro e w1 ⟨rfl, hR1, hD1, hT1⟩
          have M1 := box (M.out.turn ⟨hR1, hD1, hT1⟩)
          have q1 : w1.cell? ⟨w.heap.size + 1 + 1, 0, none⟩ = some (.func (.func 53) #[] #[.pointer (some ⟨w.heap.size, 0, none⟩), .pointer (some ⟨w.heap.size + 1, 0, none⟩)]) := M1.out.T.cell 0
          have s1 : wr.heap.size ≤ w1.heap.size := hT1.size
          have slo := M1.out.lo
          clear hR1 hD1 hT1 r0 d0 q0
          have M2 := box (M1.out.alloc (.cells #[.int .u8 4, .int .i64 0, .int .u64 0, .string ⟨#[]⟩] 24))
          have B2 := box (Whole1.made w1 24 #[.int .u8 4, .int .i64 0, .int .u64 0, .string ⟨#[]⟩])
          have q2 : (w1.alloc (.cells #[.int .u8 4, .int .i64 0, .int .u64 0, .string ⟨#[]⟩] 24)).cell? ⟨w.heap.size + 1 + 1, 0, none⟩ = some (.func (.func 53) #[] #[.pointer (some ⟨w.heap.size, 0, none⟩), .pointer (some ⟨w.heap.size + 1, 0, none⟩)]) := M2.out.T.cell 0
          have TB := box (HT.out.below (M2.out.below))
          have C2 := box (text_no t1 false w.heap.size (w.heap.size + 1) _ M2.out.R M2.out.D (by omega) (by omega) TB.out hi)
          have HI : Box (Lib.index r [0, 1] = -1) := box (by rw [← TL1.out]; exact hi)
          clear hi
          go_wp2_with fail
          refine C2.out.mono ?_
          rintro e w2 ⟨rfl, hR2, hD2, hT2⟩
          have M3 := box (M2.out.turn ⟨hR2, hD2, hT2⟩)
          have B3 := box (hT2.whole B2.out (by omega) (by omega))
          have p0 : w2.cell? ⟨w1.heap.size, 0, none⟩ = some (.int .u8 4) := B3.out.cell 0
          have p1 : w2.cell? ⟨w1.heap.size, 1, none⟩ = some (.int .i64 0) := B3.out.cell 1
          have p2 : w2.cell? ⟨w1.heap.size, 2, none⟩ = some (.int .u64 0) := B3.out.cell 2
          have p3 : w2.cell? ⟨w1.heap.size, 3, none⟩ = some (.string ⟨#[]⟩) := B3.out.cell 3
          have fz1 : w2.frozen? ⟨w1.heap.size, 1, none⟩ = false := B3.out.frozen 1
          have fz2 : w2.frozen? ⟨w1.heap.size, 2, none⟩ = false := B3.out.frozen 2
          have fz3 : w2.frozen? ⟨w1.heap.size, 3, none⟩ = false := B3.out.frozen 3
          clear hR2 hD2 hT2 q1 q2
          have M4 := box (M3.out.store (g := w1.heap.size) (by omega) 3 (.string ⟨#[]⟩))
          go_wp2_with (at_builtin; refine append_val (w := (w2.setCell ⟨w1.heap.size, 3, none⟩ (.string ⟨#[]⟩))) rfl (.tmp 73) (.tmp 75) rfl w.heap.size _ _ xs rfl M4.out.own ⟨4, 0, 0, ⟨#[]⟩⟩ #[.int .u8 4, .int .i64 0, .int .u64 0, .string ⟨#[]⟩] rfl w2.heap.size rfl ?c4 (by omega) ?c5 ?_ ?c6)
          case c4 => simp [World.setCell]
          case c5 => have := M4.out.hi; omega
          case c6 => rfl
          intro v3 w3 ho hb hg
          obtain ⟨a3, cap3, rfl⟩ := own_any ho
          have M9 := box (M4.out.append ho hb hg)
          clear ho hb hg
          go_wp2_with fail
          go_roundw
          case rel => exact ⟨t1, true, xs ++ [⟨4, 0, 0, ⟨#[]⟩⟩], GetAt.next M9.out hsize (by omega) hl8 OKS.out (val_ok 4 0 0 ⟨#[]⟩ (by omega) (by omega) (by omega) (by show 0 ≤ _; omega)) (reads_text_bad RD.out (.inl rfl) HI.out _ _)⟩
          case measure => simp [lenV]; omega
        · clear hge
          have hu1 : ∀ h : 0 < u.size, (u[0]'h).toNat = 5 := uc
          clear uc
          go_wp2_with fail
          refine C1'.out.mono ?_
          rintro e w1 ⟨rfl, hR1, hD1, hT1⟩
          have M1 := box (M.out.turn ⟨hR1, hD1, hT1⟩)
          have q1 : w1.cell? ⟨w.heap.size + 1 + 1, 0, none⟩ = some (.func (.func 53) #[] #[.pointer (some ⟨w.heap.size, 0, none⟩), .pointer (some ⟨w.heap.size + 1, 0, none⟩)]) := M1.out.T.cell 0
          have s1 : wr.heap.size ≤ w1.heap.size := hT1.size
          have slo := M1.out.lo
          clear hR1 hD1 hT1 r0 d0 q0
          have M2 := box (M1.out.alloc (.cells #[.int .u8 4, .int .i64 0, .int .u64 0, .string ⟨#[]⟩] 24))
          have B2 := box (Whole1.made w1 24 #[.int .u8 4, .int .i64 0, .int .u64 0, .string ⟨#[]⟩])
          have q2 : (w1.alloc (.cells #[.int .u8 4, .int .i64 0, .int .u64 0, .string ⟨#[]⟩] 24)).cell? ⟨w.heap.size + 1 + 1, 0, none⟩ = some (.func (.func 53) #[] #[.pointer (some ⟨w.heap.size, 0, none⟩), .pointer (some ⟨w.heap.size + 1, 0, none⟩)]) := M2.out.T.cell 0
          have TB := box (HT.out.below (M2.out.below))
          have C2 := box (text_ok t1 false i w.heap.size (w.heap.size + 1) _ M2.out.R M2.out.D (by omega) (by omega) TB.out (by have := HT.out.len; obtain ⟨m, hm⟩ := this; have := World.block_lt_of_cell? _ _ hm; simp at this; omega) hi)
          obtain ⟨t2, ht2⟩ : ∃ t2, t1.extract (i + 2) t1.size = t2 := ⟨_, rfl⟩
          have TL2 : Box (t2.data.toList = r.drop (i + 2)) := box (by rw [← ht2, Lib.extract_to_end, TL1.out])
          have t2s : t2.size ≤ t1.size := by rw [← ht2, ByteArray.size_extract]; omega
          obtain ⟨X, hX⟩ : ∃ X : ByteArray, (⟨(Lib.replaceAll (t1.data.toList.take i) [0, 255] [0]).toArray⟩ : ByteArray) = X := ⟨_, rfl⟩
          have HX : Box (X = ⟨(Lib.replaceAll (r.take i) [0, 255] [0]).toArray⟩) := box (by rw [← hX, TL1.out])
          have XS : Box (X.size ≤ 65536) := box (by
            rw [← hX]
            have h1 := replaceBack_len _ (t1.data.toList.take i) (Nat.le_refl _)
            have h2 := List.length_take_le i t1.data.toList
            have h3 : (⟨(Lib.replaceAll (t1.data.toList.take i) [0, 255] [0]).toArray⟩ : ByteArray).size = (Lib.replaceAll (t1.data.toList.take i) [0, 255] [0]).length := by simp [ByteArray.size]
            have h4 : (t1.data.toList.take i).length ≤ t1.size := List.length_take_le' i t1.data.toList
            omega)
          have HI : Box (Lib.index r [0, 1] = (i : Int)) := box (by rw [← TL1.out]; exact hi)
          rw [ht2, hX] at C2
          clear ht2 hX hi
          go_wp2_with fail
          refine C2.out.mono ?_
          rintro e w2 ⟨rfl, hR2, hD2, hT2⟩
          have M3 := box (M2.out.turn ⟨hR2, hD2, hT2⟩)
          have B3 := box (hT2.whole B2.out (by omega) (by omega))
          have p0 : w2.cell? ⟨w1.heap.size, 0, none⟩ = some (.int .u8 4) := B3.out.cell 0
          have p1 : w2.cell? ⟨w1.heap.size, 1, none⟩ = some (.int .i64 0) := B3.out.cell 1
          have p2 : w2.cell? ⟨w1.heap.size, 2, none⟩ = some (.int .u64 0) := B3.out.cell 2
          have p3 : w2.cell? ⟨w1.heap.size, 3, none⟩ = some (.string ⟨#[]⟩) := B3.out.cell 3
          have fz1 : w2.frozen? ⟨w1.heap.size, 1, none⟩ = false := B3.out.frozen 1
          have fz2 : w2.frozen? ⟨w1.heap.size, 2, none⟩ = false := B3.out.frozen 2
          have fz3 : w2.frozen? ⟨w1.heap.size, 3, none⟩ = false := B3.out.frozen 3
          clear hR2 hD2 hT2 q1 q2
          have M4 := box (M3.out.store (g := w1.heap.size) (by omega) 3 (.string X))
          go_wp2_with (at_builtin; refine append_val (w := (w2.setCell ⟨w1.heap.size, 3, none⟩ (.string X))) rfl (.tmp 73) (.tmp 75) rfl w.heap.size _ _ xs rfl M4.out.own ⟨4, 0, 0, X⟩ #[.int .u8 4, .int .i64 0, .int .u64 0, .string X] rfl w2.heap.size rfl ?c4 (by omega) ?c5 ?_ ?c6)
          case c4 => simp [World.setCell]
          case c5 => have := M4.out.hi; omega
          case c6 => rfl
          intro v3 w3 ho hb hg
          obtain ⟨a3, cap3, rfl⟩ := own_any ho
          have M9 := box (M4.out.append ho hb hg)
          clear ho hb hg
          go_wp2_with fail
          go_roundw
          case rel => exact ⟨t2, false, xs ++ [⟨4, 0, 0, X⟩], GetAt.next M9.out hsize (by omega) hl8 OKS.out (val_ok 4 0 0 X (by omega) (by omega) (by omega) XS.out) (by rw [TL2.out, HX.out]; exact reads_text RD.out (.inl rfl) HI.out)⟩
          case measure => simp [lenV]; omega
      · have hge := Lib.index_ge t1.data.toList [0, 1]
        rcases (show Lib.index t1.data.toList [0, 1] = -1 ∨ ∃ i : Nat, Lib.index t1.data.toList [0, 1] = i by
          by_cases h : Lib.index t1.data.toList [0, 1] = -1
          · exact .inl h
          · exact .inr ⟨(Lib.index t1.data.toList [0, 1]).toNat, by omega⟩) with hi | ⟨i, hi⟩
        · clear hge
          have hu1 : ∀ h : 0 < u.size, (u[0]'h).toNat = 6 := uc
          clear uc
          go_wp2_with fail
          refine C1'.out.mono ?_
          rintro e w1 ⟨rfl, hR1, hD1, hT1⟩
          have M1 := box (M.out.turn ⟨hR1, hD1, hT1⟩)
          have q1 : w1.cell? ⟨w.heap.size + 1 + 1, 0, none⟩ = some (.func (.func 53) #[] #[.pointer (some ⟨w.heap.size, 0, none⟩), .pointer (some ⟨w.heap.size + 1, 0, none⟩)]) := M1.out.T.cell 0
          have s1 : wr.heap.size ≤ w1.heap.size := hT1.size
          have slo := M1.out.lo
          clear hR1 hD1 hT1 r0 d0 q0
          have M2 := box (M1.out.alloc (.cells #[.int .u8 5, .int .i64 0, .int .u64 0, .string ⟨#[]⟩] 24))
          have B2 := box (Whole1.made w1 24 #[.int .u8 5, .int .i64 0, .int .u64 0, .string ⟨#[]⟩])
          have q2 : (w1.alloc (.cells #[.int .u8 5, .int .i64 0, .int .u64 0, .string ⟨#[]⟩] 24)).cell? ⟨w.heap.size + 1 + 1, 0, none⟩ = some (.func (.func 53) #[] #[.pointer (some ⟨w.heap.size, 0, none⟩), .pointer (some ⟨w.heap.size + 1, 0, none⟩)]) := M2.out.T.cell 0
          have TB := box (HT.out.below (M2.out.below))
          have C2 := box (text_no t1 false w.heap.size (w.heap.size + 1) _ M2.out.R M2.out.D (by omega) (by omega) TB.out hi)
          have HI : Box (Lib.index r [0, 1] = -1) := box (by rw [← TL1.out]; exact hi)
          clear hi
          go_wp2_with fail
          refine C2.out.mono ?_
          rintro e w2 ⟨rfl, hR2, hD2, hT2⟩
          have M3 := box (M2.out.turn ⟨hR2, hD2, hT2⟩)
          have B3 := box (hT2.whole B2.out (by omega) (by omega))
          have p0 : w2.cell? ⟨w1.heap.size, 0, none⟩ = some (.int .u8 5) := B3.out.cell 0
          have p1 : w2.cell? ⟨w1.heap.size, 1, none⟩ = some (.int .i64 0) := B3.out.cell 1
          have p2 : w2.cell? ⟨w1.heap.size, 2, none⟩ = some (.int .u64 0) := B3.out.cell 2
          have p3 : w2.cell? ⟨w1.heap.size, 3, none⟩ = some (.string ⟨#[]⟩) := B3.out.cell 3
          have fz1 : w2.frozen? ⟨w1.heap.size, 1, none⟩ = false := B3.out.frozen 1
          have fz2 : w2.frozen? ⟨w1.heap.size, 2, none⟩ = false := B3.out.frozen 2
          have fz3 : w2.frozen? ⟨w1.heap.size, 3, none⟩ = false := B3.out.frozen 3
          clear hR2 hD2 hT2 q1 q2
          have M4 := box (M3.out.store (g := w1.heap.size) (by omega) 3 (.string ⟨#[]⟩))
          go_wp2_with (at_builtin; refine append_val (w := (w2.setCell ⟨w1.heap.size, 3, none⟩ (.string ⟨#[]⟩))) rfl (.tmp 73) (.tmp 75) rfl w.heap.size _ _ xs rfl M4.out.own ⟨5, 0, 0, ⟨#[]⟩⟩ #[.int .u8 5, .int .i64 0, .int .u64 0, .string ⟨#[]⟩] rfl w2.heap.size rfl ?c4 (by omega) ?c5 ?_ ?c6)
          case c4 => simp [World.setCell]
          case c5 => have := M4.out.hi; omega
          case c6 => rfl
          intro v3 w3 ho hb hg
          obtain ⟨a3, cap3, rfl⟩ := own_any ho
          have M9 := box (M4.out.append ho hb hg)
          clear ho hb hg
          go_wp2_with fail
          go_roundw
          case rel => exact ⟨t1, true, xs ++ [⟨5, 0, 0, ⟨#[]⟩⟩], GetAt.next M9.out hsize (by omega) hl8 OKS.out (val_ok 5 0 0 ⟨#[]⟩ (by omega) (by omega) (by omega) (by show 0 ≤ _; omega)) (reads_text_bad RD.out (.inr rfl) HI.out _ _)⟩
          case measure => simp [lenV]; omega
        · clear hge
          have hu1 : ∀ h : 0 < u.size, (u[0]'h).toNat = 6 := uc
          clear uc
          go_wp2_with fail
          refine C1'.out.mono ?_
          rintro e w1 ⟨rfl, hR1, hD1, hT1⟩
          have M1 := box (M.out.turn ⟨hR1, hD1, hT1⟩)
          have q1 : w1.cell? ⟨w.heap.size + 1 + 1, 0, none⟩ = some (.func (.func 53) #[] #[.pointer (some ⟨w.heap.size, 0, none⟩), .pointer (some ⟨w.heap.size + 1, 0, none⟩)]) := M1.out.T.cell 0
          have s1 : wr.heap.size ≤ w1.heap.size := hT1.size
          have slo := M1.out.lo
          clear hR1 hD1 hT1 r0 d0 q0
          have M2 := box (M1.out.alloc (.cells #[.int .u8 5, .int .i64 0, .int .u64 0, .string ⟨#[]⟩] 24))
          have B2 := box (Whole1.made w1 24 #[.int .u8 5, .int .i64 0, .int .u64 0, .string ⟨#[]⟩])
          have q2 : (w1.alloc (.cells #[.int .u8 5, .int .i64 0, .int .u64 0, .string ⟨#[]⟩] 24)).cell? ⟨w.heap.size + 1 + 1, 0, none⟩ = some (.func (.func 53) #[] #[.pointer (some ⟨w.heap.size, 0, none⟩), .pointer (some ⟨w.heap.size + 1, 0, none⟩)]) := M2.out.T.cell 0
          have TB := box (HT.out.below (M2.out.below))
          have C2 := box (text_ok t1 false i w.heap.size (w.heap.size + 1) _ M2.out.R M2.out.D (by omega) (by omega) TB.out (by have := HT.out.len; obtain ⟨m, hm⟩ := this; have := World.block_lt_of_cell? _ _ hm; simp at this; omega) hi)
          obtain ⟨t2, ht2⟩ : ∃ t2, t1.extract (i + 2) t1.size = t2 := ⟨_, rfl⟩
          have TL2 : Box (t2.data.toList = r.drop (i + 2)) := box (by rw [← ht2, Lib.extract_to_end, TL1.out])
          have t2s : t2.size ≤ t1.size := by rw [← ht2, ByteArray.size_extract]; omega
          obtain ⟨X, hX⟩ : ∃ X : ByteArray, (⟨(Lib.replaceAll (t1.data.toList.take i) [0, 255] [0]).toArray⟩ : ByteArray) = X := ⟨_, rfl⟩
          have HX : Box (X = ⟨(Lib.replaceAll (r.take i) [0, 255] [0]).toArray⟩) := box (by rw [← hX, TL1.out])
          have XS : Box (X.size ≤ 65536) := box (by
            rw [← hX]
            have h1 := replaceBack_len _ (t1.data.toList.take i) (Nat.le_refl _)
            have h2 := List.length_take_le i t1.data.toList
            have h3 : (⟨(Lib.replaceAll (t1.data.toList.take i) [0, 255] [0]).toArray⟩ : ByteArray).size = (Lib.replaceAll (t1.data.toList.take i) [0, 255] [0]).length := by simp [ByteArray.size]
            have h4 : (t1.data.toList.take i).length ≤ t1.size := List.length_take_le' i t1.data.toList
            omega)
          have HI : Box (Lib.index r [0, 1] = (i : Int)) := box (by rw [← TL1.out]; exact hi)
          rw [ht2, hX] at C2
          clear ht2 hX hi
          go_wp2_with fail
          refine C2.out.mono ?_
          rintro e w2 ⟨rfl, hR2, hD2, hT2⟩
          have M3 := box (M2.out.turn ⟨hR2, hD2, hT2⟩)
          have B3 := box (hT2.whole B2.out (by omega) (by omega))
          have p0 : w2.cell? ⟨w1.heap.size, 0, none⟩ = some (.int .u8 5) := B3.out.cell 0
          have p1 : w2.cell? ⟨w1.heap.size, 1, none⟩ = some (.int .i64 0) := B3.out.cell 1
          have p2 : w2.cell? ⟨w1.heap.size, 2, none⟩ = some (.int .u64 0) := B3.out.cell 2
          have p3 : w2.cell? ⟨w1.heap.size, 3, none⟩ = some (.string ⟨#[]⟩) := B3.out.cell 3
          have fz1 : w2.frozen? ⟨w1.heap.size, 1, none⟩ = false := B3.out.frozen 1
          have fz2 : w2.frozen? ⟨w1.heap.size, 2, none⟩ = false := B3.out.frozen 2
          have fz3 : w2.frozen? ⟨w1.heap.size, 3, none⟩ = false := B3.out.frozen 3
          clear hR2 hD2 hT2 q1 q2
          have M4 := box (M3.out.store (g := w1.heap.size) (by omega) 3 (.string X))
          go_wp2_with (at_builtin; refine append_val (w := (w2.setCell ⟨w1.heap.size, 3, none⟩ (.string X))) rfl (.tmp 73) (.tmp 75) rfl w.heap.size _ _ xs rfl M4.out.own ⟨5, 0, 0, X⟩ #[.int .u8 5, .int .i64 0, .int .u64 0, .string X] rfl w2.heap.size rfl ?c4 (by omega) ?c5 ?_ ?c6)
          case c4 => simp [World.setCell]
          case c5 => have := M4.out.hi; omega
          case c6 => rfl
          intro v3 w3 ho hb hg
          obtain ⟨a3, cap3, rfl⟩ := own_any ho
          have M9 := box (M4.out.append ho hb hg)
          clear ho hb hg
          go_wp2_with fail
          go_roundw
          case rel => exact ⟨t2, false, xs ++ [⟨5, 0, 0, X⟩], GetAt.next M9.out hsize (by omega) hl8 OKS.out (val_ok 5 0 0 X (by omega) (by omega) (by omega) XS.out) (by rw [TL2.out, HX.out]; exact reads_text RD.out (.inr rfl) HI.out)⟩
          case measure => simp [lenV]; omega
      · have hN := c.toNat_lt
        rcases h07 with h0 | h7
        · have hu1 : ∀ h : 0 < u.size, (u[0]'h).toNat = 0 := fun h => (uc h).trans h0
          clear uc
          go_wp2_with fail
          refine C1'.out.mono ?_
          rintro e w1 ⟨rfl, hR1, hD1, hT1⟩
          have M1 := box (M.out.turn ⟨hR1, hD1, hT1⟩)
          have q1 : w1.cell? ⟨w.heap.size + 1 + 1, 0, none⟩ = some (.func (.func 53) #[] #[.pointer (some ⟨w.heap.size, 0, none⟩), .pointer (some ⟨w.heap.size + 1, 0, none⟩)]) := M1.out.T.cell 0
          have s1 : wr.heap.size ≤ w1.heap.size := hT1.size
          have slo := M1.out.lo
          clear hR1 hD1 hT1 r0 d0 q0
          have M2 := box (M1.out.alloc (.cells #[.int .u8 255, .int .i64 0, .int .u64 0, .string ⟨#[]⟩] 24))
          have B2 := box (Whole1.made w1 24 #[.int .u8 255, .int .i64 0, .int .u64 0, .string ⟨#[]⟩])
          have q2 : (w1.alloc (.cells #[.int .u8 255, .int .i64 0, .int .u64 0, .string ⟨#[]⟩] 24)).cell? ⟨w.heap.size + 1 + 1, 0, none⟩ = some (.func (.func 53) #[] #[.pointer (some ⟨w.heap.size, 0, none⟩), .pointer (some ⟨w.heap.size + 1, 0, none⟩)]) := M2.out.T.cell 0
          go_wp2_with (at_builtin; refine append_val (w := (w1.alloc (.cells #[.int .u8 255, .int .i64 0, .int .u64 0, .string ⟨#[]⟩] 24))) rfl (.tmp 73) (.tmp 75) rfl w.heap.size _ _ xs rfl M2.out.own (nul 255) #[.int .u8 255, .int .i64 0, .int .u64 0, .string ⟨#[]⟩] rfl (w1.heap.size + 1) rfl ?c4 (by omega) ?c5 ?_ ?c6)
          case c4 => simp
          case c5 => have := M2.out.hi; omega
          case c6 => rfl
          intro v3 w3 ho hb hg
          obtain ⟨a3, cap3, rfl⟩ := own_any ho
          have M9 := box (M2.out.append ho hb hg)
          clear ho hb hg
          go_wp2_with fail
          go_roundw
          case rel => exact ⟨t1, false, xs ++ [(nul 255)], GetAt.next M9.out hsize (by omega) hl8 OKS.out (nul_ok 255 (by omega)) (reads_other RD.out (.inl h0) _ _ _)⟩
          case measure => simp [lenV]; omega
        · obtain ⟨N, hN1⟩ : ∃ N, c.toNat = N + 1 := ⟨c.toNat - 1, by omega⟩
          have hu1 : ∀ h : 0 < u.size, (u[0]'h).toNat = N + 1 := fun h => (uc h).trans hN1
          have hw : IntKind.u8.wrap (N : Int) = (N : Int) := by rw [IntKind.wrap_u8]; omega
          have g1 : ((N : Int) == 1) = false := by simp; omega
          have g2 : ((N : Int) == 2) = false := by simp; omega
          have g3 : ((N : Int) == 3) = false := by simp; omega
          have g4 : ((N : Int) == 4) = false := by simp; omega
          have g5 : ((N : Int) == 5) = false := by simp; omega
          have N255 : N < 256 := by omega
          have h7' := box h7
          clear uc h7 hN hN1
          go_wp2_with fail
          refine C1'.out.mono ?_
          rintro e w1 ⟨rfl, hR1, hD1, hT1⟩
          have M1 := box (M.out.turn ⟨hR1, hD1, hT1⟩)
          have q1 : w1.cell? ⟨w.heap.size + 1 + 1, 0, none⟩ = some (.func (.func 53) #[] #[.pointer (some ⟨w.heap.size, 0, none⟩), .pointer (some ⟨w.heap.size + 1, 0, none⟩)]) := M1.out.T.cell 0
          have s1 : wr.heap.size ≤ w1.heap.size := hT1.size
          have slo := M1.out.lo
          clear hR1 hD1 hT1 r0 d0 q0
          have M2 := box (M1.out.alloc (.cells #[.int .u8 N, .int .i64 0, .int .u64 0, .string ⟨#[]⟩] 24))
          have B2 := box (Whole1.made w1 24 #[.int .u8 N, .int .i64 0, .int .u64 0, .string ⟨#[]⟩])
          have q2 : (w1.alloc (.cells #[.int .u8 N, .int .i64 0, .int .u64 0, .string ⟨#[]⟩] 24)).cell? ⟨w.heap.size + 1 + 1, 0, none⟩ = some (.func (.func 53) #[] #[.pointer (some ⟨w.heap.size, 0, none⟩), .pointer (some ⟨w.heap.size + 1, 0, none⟩)]) := M2.out.T.cell 0
          go_wp2_with (at_builtin; refine append_val (w := (w1.alloc (.cells #[.int .u8 N, .int .i64 0, .int .u64 0, .string ⟨#[]⟩] 24))) rfl (.tmp 73) (.tmp 75) rfl w.heap.size _ _ xs rfl M2.out.own (nul N) #[.int .u8 N, .int .i64 0, .int .u64 0, .string ⟨#[]⟩] rfl (w1.heap.size + 1) rfl ?c4 (by omega) ?c5 ?_ ?c6)
          case c4 => simp
          case c5 => have := M2.out.hi; omega
          case c6 => rfl
          intro v3 w3 ho hb hg
          obtain ⟨a3, cap3, rfl⟩ := own_any ho
          have M9 := box (M2.out.append ho hb hg)
          clear ho hb hg
          go_wp2_with fail
          go_roundw
          case rel => exact ⟨t1, false, xs ++ [(nul N)], GetAt.next M9.out hsize (by omega) hl8 OKS.out (nul_ok N N255) (reads_other RD.out (.inr h7'.out) _ _ _)⟩
          case measure => simp [lenV]; omega
    · rcases (show t.size = 0 ∨ (0 < t.size ∧ b = true) ∨ (0 < t.size ∧ b = false ∧ 8 < xs.length) by
        rcases Nat.eq_zero_or_pos t.size with h | h
        · exact .inl h
        · cases b with
          | true => exact .inr (.inl ⟨h, rfl⟩)
          | false => exact .inr (.inr ⟨h, rfl, Nat.lt_of_not_le fun h8 => hgo ⟨h, rfl, h8⟩⟩)) with h0 | ⟨hp, rfl⟩ | ⟨hp, rfl, h8⟩
      · have ht0 : (t.size : Int) = 0 := by omega
        have EX : Box (∀ m, Good m → keyL m = s.data.toList → b = false ∧ m = xs) := box (fun m hm hs => by have h := RDS.out; rw [size0_nil h0] at h; exact h.all m hm hs)
        clear hgo h0 RDS
        cases b with
        | true =>
          have T33 := box (HT.out.below M.out.below)
          have C33 := box (put_any a0 xs.length cap0 xs wr HV.out T33.out)
          obtain ⟨P, E, hP, hE, PC⟩ := put_cases xs (fun x hx => (OKS.out x hx).1)
          rw [hP, hE] at C33
          have KP := box PC
          clear hP hE PC
          go_wp2_with fail
          refine C33.out.mono ?_
          rintro e w2 ⟨rfl, hb2⟩
          have M2 := box (M.out.call hb2)
          have d2 : w2.cell? ⟨w.heap.size + 1, 0, none⟩ = some (.bool true) := M2.out.D.cell 0
          have V2 := box (vals_below HV.out hb2)
          clear hb2 r0 d0 q0
          go_wp2_with fail
          go_ret2
          exact get_none M2.out.below (fun m hm hs => by have := (EX.out m hm hs).1; cases this)
        | false =>
          have T33 := box (HT.out.below M.out.below)
          have C33 := box (put_any a0 xs.length cap0 xs wr HV.out T33.out)
          obtain ⟨P, E, hP, hE, PC⟩ := put_cases xs (fun x hx => (OKS.out x hx).1)
          rw [hP, hE] at C33
          have KP := box PC
          clear hP hE PC
          rcases KP.out with ⟨hgd, hPk, rfl⟩ | ⟨hng, rfl⟩
          · by_cases heq : P = s
            · have heq2 := text_eq' heq
              obtain ⟨he1, he2⟩ := heq2
              have GD := box hgd
              have KE : Box (keyL xs = s.data.toList) := box (by rw [← heq, hPk])
              clear heq hPk hgd KP
              go_wp2_with fail
              refine C33.out.mono ?_
              rintro e w2 ⟨rfl, hb2⟩
              have M2 := box (M.out.call hb2)
              have d2 : w2.cell? ⟨w.heap.size + 1, 0, none⟩ = some (.bool false) := M2.out.D.cell 0
              have V2 := box (vals_below HV.out hb2)
              clear hb2 r0 d0 q0
              go_wp2_with fail
              go_ret2
              exact ⟨a0, _, cap0, xs, 0, rfl, V2.out, HN.out, M2.out.below, .inl ⟨rfl, GD.out, KE.out⟩⟩
            · have heq2 := text_ne' heq
              obtain ⟨he1, he2⟩ := heq2
              have NE : Box (keyL xs ≠ s.data.toList) := box (fun e => heq (by rw [hPk, e]))
              clear heq hPk hgd KP
              go_wp2_with fail
              refine C33.out.mono ?_
              rintro e w2 ⟨rfl, hb2⟩
              have M2 := box (M.out.call hb2)
              have d2 : w2.cell? ⟨w.heap.size + 1, 0, none⟩ = some (.bool false) := M2.out.D.cell 0
              have V2 := box (vals_below HV.out hb2)
              clear hb2 r0 d0 q0
              go_wp2_with fail
              go_ret2
              exact get_none M2.out.below (fun m hm hs => by obtain ⟨_, rfl⟩ := EX.out m hm hs; exact NE.out hs)
          · have NG := box hng
            clear hng KP
            go_wp2_with fail
            refine C33.out.mono ?_
            rintro e w2 ⟨rfl, hb2⟩
            have M2 := box (M.out.call hb2)
            have d2 : w2.cell? ⟨w.heap.size + 1, 0, none⟩ = some (.bool false) := M2.out.D.cell 0
            have V2 := box (vals_below HV.out hb2)
            clear hb2 r0 d0 q0
            go_wp2_with fail
            go_ret2
            exact get_none M2.out.below (fun m hm hs => by obtain ⟨_, rfl⟩ := EX.out m hm hs; exact NG.out hm)
      · have hpI : (0 : Int) < (t.size : Int) := by omega
        have EX : Box (∀ m, Good m → keyL m = s.data.toList → true = false ∧ m = xs) := box (fun m hm hs => (RDS.out.bad m hm hs).elim)
        clear hgo hp RDS
        have T33 := box (HT.out.below M.out.below)
        have C33 := box (put_any a0 xs.length cap0 xs wr HV.out T33.out)
        obtain ⟨P, E, hP, hE, PC⟩ := put_cases xs (fun x hx => (OKS.out x hx).1)
        rw [hP, hE] at C33
        have KP := box PC
        clear hP hE PC
        go_wp2_with fail
        refine C33.out.mono ?_
        rintro e w2 ⟨rfl, hb2⟩
        have M2 := box (M.out.call hb2)
        have d2 : w2.cell? ⟨w.heap.size + 1, 0, none⟩ = some (.bool true) := M2.out.D.cell 0
        have V2 := box (vals_below HV.out hb2)
        clear hb2 r0 d0 q0
        go_wp2_with fail
        go_ret2
        exact get_none M2.out.below (fun m hm hs => by have := (EX.out m hm hs).1; cases this)
      · have hpI : (0 : Int) < (t.size : Int) := by omega
        have hlI : ¬ (xs.length : Int) ≤ 8 := by omega
        have EX : Box (∀ m, Good m → keyL m = s.data.toList → false = false ∧ m = xs) := box (fun m hm hs => (RDS.out.long h8 m hm hs).elim)
        clear hgo hp h8 RDS
        have T33 := box (HT.out.below M.out.below)
        have C33 := box (put_any a0 xs.length cap0 xs wr HV.out T33.out)
        obtain ⟨P, E, hP, hE, PC⟩ := put_cases xs (fun x hx => (OKS.out x hx).1)
        rw [hP, hE] at C33
        have KP := box PC
        clear hP hE PC
        rcases KP.out with ⟨hgd, hPk, rfl⟩ | ⟨hng, rfl⟩
        · by_cases heq : P = s
          · have heq2 := text_eq' heq
            obtain ⟨he1, he2⟩ := heq2
            have GD := box hgd
            have KE : Box (keyL xs = s.data.toList) := box (by rw [← heq, hPk])
            clear heq hPk hgd KP
            go_wp2_with fail
            refine C33.out.mono ?_
            rintro e w2 ⟨rfl, hb2⟩
            have M2 := box (M.out.call hb2)
            have d2 : w2.cell? ⟨w.heap.size + 1, 0, none⟩ = some (.bool false) := M2.out.D.cell 0
            have V2 := box (vals_below HV.out hb2)
            clear hb2 r0 d0 q0
            go_wp2_with fail
            go_ret2
            exact ⟨a0, _, cap0, xs, 0, rfl, V2.out, HN.out, M2.out.below, .inl ⟨rfl, GD.out, KE.out⟩⟩
          · have heq2 := text_ne' heq
            obtain ⟨he1, he2⟩ := heq2
            have NE : Box (keyL xs ≠ s.data.toList) := box (fun e => heq (by rw [hPk, e]))
            clear heq hPk hgd KP
            go_wp2_with fail
            refine C33.out.mono ?_
            rintro e w2 ⟨rfl, hb2⟩
            have M2 := box (M.out.call hb2)
            have d2 : w2.cell? ⟨w.heap.size + 1, 0, none⟩ = some (.bool false) := M2.out.D.cell 0
            have V2 := box (vals_below HV.out hb2)
            clear hb2 r0 d0 q0
            go_wp2_with fail
            go_ret2
            exact get_none M2.out.below (fun m hm hs => by obtain ⟨_, rfl⟩ := EX.out m hm hs; exact NE.out hs)
        · have NG := box hng
          clear hng KP
          go_wp2_with fail
          refine C33.out.mono ?_
          rintro e w2 ⟨rfl, hb2⟩
          have M2 := box (M.out.call hb2)
          have d2 : w2.cell? ⟨w.heap.size + 1, 0, none⟩ = some (.bool false) := M2.out.D.cell 0
          have V2 := box (vals_below HV.out hb2)
          clear hb2 r0 d0 q0
          go_wp2_with fail
          go_ret2
          exact get_none M2.out.below (fun m hm hs => by obtain ⟨_, rfl⟩ := EX.out m hm hs; exact NG.out hm)
end Go.Proofs.YtafialodjnjihaaDoor
