/- The law that every inlet takes each record just once. No condition. -/
import Derived.Test.YtafialodjnjihaaArgs
import Derived.Test.YtafialodjnjihaaAlive22
import Derived.Test.YtafialodjnjihaaNums
import Derived.Test.YtafialodjnjihaaBox
import Derived.BigQuiet
import Derived.ChangeKeysEq
import Derived.Test.YtafialodjnjihaaRow
namespace Go.Proofs.Ytafialodjnjihaa
open Go Go.RowKit
set_option maxRecDepth 100000
set_option linter.unusedVariables false

theorem info33 : (Try.prog.info? 33).map (fun i => (i.zero, i.size, i.bytes)) = some (some (.agg #[.int .u64 0, .int .u64 0, .string ⟨#[]⟩]), 3, 32) := by kernel_rfl

theorem some33 : ∃ i, Try.prog.info? 33 = some i ∧ i.zero = some (.agg #[.int .u64 0, .int .u64 0, .string ⟨#[]⟩]) ∧ i.size = 3 ∧ i.bytes = 32 := by
  have h := info33
  cases hi : Try.prog.info? 33 with
  | none => rw [hi] at h; cases h
  | some i => rw [hi] at h; simp at h; exact ⟨i, rfl, h.1, h.2.1, h.2.2⟩

/-- the first m records of an inlet that begins at an offset -/
def gotTo (F : Nat) (ss : List ByteArray) (m : Nat) : List Value := (List.range m).flatMap fun j => [.int .u64 ((F + j : Nat) : Int), .int .u64 ((F + j + 1 : Nat) : Int), .string (ss.getD j ByteArray.empty)]
theorem gotTo_succ (F : Nat) (ss : List ByteArray) (m : Nat) : gotTo F ss (m + 1) = gotTo F ss m ++ [.int .u64 ((F + m : Nat) : Int), .int .u64 ((F + m + 1 : Nat) : Int), .string (ss.getD m ByteArray.empty)] := by
  simp [gotTo, List.range_succ]

theorem size33 (w : World) : (sizeOf 33).run Try.prog w = .ok 3 w := by
  obtain ⟨i, hi, _, h3, _⟩ := some33
  rw [run_sizeOf w hi]
  simp [Program.cellsOf, hi, h3]
theorem gotTo_at (F : Nat) (ss : List ByteArray) (m j : Nat) (hj : j < m) (i : Nat) (hi : i < 3) : (gotTo F ss m)[j * 3 + i]? = [Value.int .u64 ((F + j : Nat) : Int), .int .u64 ((F + j + 1 : Nat) : Int), .string (ss.getD j ByteArray.empty)][i]? := by
  have hl : ∀ m, (gotTo F ss m).length = m * 3 := fun m => by
    induction m with
    | zero => rfl
    | succ m ih => rw [gotTo_succ, List.length_append, ih]; simp; omega
  induction m with
  | zero => omega
  | succ m ih =>
    rw [gotTo_succ]
    by_cases h : j < m
    · rw [List.getElem?_append_left (by rw [hl]; omega)]
      exact ih h
    · obtain rfl : j = m := by omega
      rw [List.getElem?_append_right (by rw [hl]; omega), hl, Nat.add_sub_cancel_left]
theorem gotTo_at0 (F : Nat) (ss : List ByteArray) (m j : Nat) (hj : j < m) : (gotTo F ss m)[j * 3]? = some (.int .u64 ((F : Int) + (j : Int))) := gotTo_at F ss m j hj 0 (by omega)
theorem gotTo_at2 (F : Nat) (ss : List ByteArray) (m j : Nat) (hj : j < m) : (gotTo F ss m)[j * 3 + 2]? = some (.string (ss.getD j ByteArray.empty)) := gotTo_at F ss m j hj 2 (by omega)

set_option maxHeartbeats 2000000 in
theorem once_main (F : Nat) (ta oa : Option Addr) (n tc lo oc : Nat) (ss : List ByteArray) (zs : List UInt8) (w : World) (hF : (F : Int) < 4294967296) (hs : Strs w ta n ss) (hz : Octets w oa lo zs) (h1 : ¬ (100 : Int) < (n : Int)) (h2 : ¬ (300 : Int) < (lo : Int)) :
    Calls Try.prog 3 #[.int .u32 F, .slice ta n tc, .slice oa lo oc] w fun e w' => e = .returned (.bool true) ∧ Below w.heap.size w w' := by
  have HS := box hs; clear hs
  have eF : IntKind.u64.wrap (F : Int) = (F : Int) := by rw [IntKind.wrap_u64]; omega
  have HF := box hF; clear hF
  have HZ := box hz; clear hz
  go_enter Try.func3, Try.ntmps3
  go_wp2_with fail
  refine (new_ok F _ (by have := HF.out; omega)).mono ?_
  rintro e w1 ⟨rfl, hw1⟩
  have b1 : Below w.heap.size w w1 := hw1 ▸ Below.alloc (Below.refl _ _) (Nat.le_refl _) _
  have x1 : Whole1 w1 w.heap.size 86 #[.int .i64 0, .int .i64 0, .int .i64 0, .int .u64 F] := hw1 ▸ Whole1.made _ _ _
  have X1 := box x1; clear hw1 x1
  have B1 := box b1; clear b1
  go_wp2_with fail
  go_loopw [9, 10, 11] (fun v c i wr => ∃ q m ag gp : Nat, q ≤ lo + n ∧ i = .int .i64 q ∧ c = .int .i64 m ∧ m ≤ n ∧ q ≤ lo + m ∧ ag ≤ q ∧ gp ≤ q ∧ Whole1 wr w.heap.size 86 #[.int .i64 m, .int .i64 ag, .int .i64 gp, .int .u64 ((F : Int) + m)] ∧
      wr.ownsRow w.heap.size 33 3 v m (gotTo F ss m) ∧ Below w.heap.size w wr) (fun _ _ i _ => lo + n - (intOf i).toNat)
  case atStart => exact ⟨0, 0, 0, 0, Nat.zero_le _, rfl, rfl, Nat.zero_le _, Nat.zero_le _, Nat.zero_le _, Nat.zero_le _, X1.out.to (by simp), World.ownsRow_nil _ _ _ _, B1.out⟩
  case round =>
    obtain ⟨q, m, ag, gp, hq, rfl, rfl, hm, hqm, hag, hgp, hx, hown, hbel⟩ := hrel
    have X := box hx
    have O := box hown
    have B := box hbel
    have hsz := hbel.size
    clear hx hown hbel X1 B1
    by_cases hlt : q < lo + n
    · by_cases hn0 : n = 0
      · have hmn : m = n := by omega
        subst hmn
        obtain ⟨ga, gc, rfl⟩ := own_any O.out
        have eN : IntKind.u64.wrap ((F : Int) + (m : Int)) = (F : Int) + (m : Int) := by have := HF.out; rw [IntKind.wrap_u64]; omega
        have HH := box (And.intro hq (And.intro hm (And.intro hqm (And.intro hag (And.intro hgp HZ.out)))))
        have d0 : (q : Int) < (lo : Int) + (m : Int) := by omega
        have d1 : ¬ (0 : Int) < (m : Int) := by omega
        clear hn0
        clear hq hm hqm hag hgp HZ hlt
        go_wp2_with fail
        refine (next_any _ _ _ _ _ _ X.out).mono ?_
        rintro e w2 ⟨rfl, rfl⟩
        have eS : ((F : Int) + (m : Int) == (F : Int) + (m : Int)) = true := by simp
        go_wp2_with fail
        go_loopw [17] (fun c w4 => ∃ j : Nat, j ≤ m ∧ c = .int .i64 j ∧ w4.ownsRow w.heap.size 33 3 (.slice ga m gc) m (gotTo F ss m) ∧ Below w.heap.size w w4) (fun c _ => m - (intOf c).toNat)
        case atStart => exact ⟨0, Nat.zero_le _, rfl, O.out, B.out⟩
        case round =>
          obtain ⟨j, hjm, rfl, hown4, hbel4⟩ := hrel
          have O4 := box hown4
          have B4 := box hbel4
          have J := box hjm
          clear hown4 hbel4 hjm X B O
          by_cases hj : j < m
          · omega
          · have hj1 : decide (j < m) = false := by simpa using hj
            go_wp2_with fail
            refine (alive22 _).mono ?_
            rintro e w5 ⟨rfl, hb5⟩
            go_wp2_with fail
            go_ret
            exact ⟨rfl, Below.grown B4.out (Only.below hb5 none) B4.out.size (by simp)⟩
      · have hnp : (0 : Int) < (n : Int) := by omega
        have hlt' : (q : Int) < (lo : Int) + n := by omega
        obtain ⟨tb, tf, rfl, htb, htc⟩ := HS.out.2.2.2 (by omega)
        by_cases hql : q < lo
        · obtain ⟨ob, of, rfl, hob, hoc⟩ := HZ.out.2.2 (by omega)
          have hz : wr.cell? ⟨ob, of + q, none⟩ = some (.int .u8 (zs.getD q 0).toNat) := (B.out.cell (by exact hob)).trans (hoc q hql)
          obtain ⟨z, hzz, hzb⟩ : ∃ z, (zs.getD q 0).toNat = z ∧ z < 256 := ⟨_, rfl, UInt8.toNat_lt _⟩
          rw [hzz] at hz
          clear hzz
          obtain ⟨k, hk⟩ : ∃ k, z % n = k := ⟨_, rfl⟩
          have hkm : k < n := hk ▸ Nat.mod_lt _ (by omega)
          have hk2 := hk
          have hr1 : (z : Int) % (n : Int) = (k : Int) := by omega
          have hr2 : (z : Int).tmod (n : Int) = (k : Int) := by rw [Int.tmod_eq_emod_of_nonneg (by omega)]; exact hr1
          clear hoc
          have hkn : k < n := by omega
          have hcell : wr.cell? ⟨tb, tf + k, none⟩ = some (.string (ss.getD k ByteArray.empty)) := (B.out.cell (by exact htb)).trans (htc k hkn)
          generalize hT : ss.getD k ByteArray.empty = tx at hcell
          generalize hG : (F : Int) + (k : Int) = G
          have eG : IntKind.u64.wrap ((F : Int) + (k : Int)) = G := by have := HF.out; have := HS.out.2.2.1; rw [hG, IntKind.wrap_u64]; unfold maxLen at this; omega
          have eG1 : IntKind.u64.wrap (G + 1) = G + 1 := by have := HF.out; have := HS.out.2.2.1; unfold maxLen at this; rw [IntKind.wrap_u64]; omega
          have HG := box hG; clear hG
          have HT := box hT; clear hT
          have HH := box (And.intro hq (And.intro hm (And.intro hqm (And.intro hag (And.intro hgp (And.intro hlt (And.intro hql (And.intro hk (And.intro hkm (And.intro hkn (And.intro htb htc)))))))))))
          have d2 : (q : Int) < (lo : Int) := by omega
          have d3 : (k : Int) < (n : Int) := by omega
          have d4 : 0 ≤ (k : Int) := by omega
          clear hq hm hqm hag hgp hlt hql hk hkm hkn htb htc
          go_wp2_with fail
          have hG0 : 0 ≤ G := by have := HG.out; omega
          have hGb : ¬ (1099511627776 : Int) ≤ G := by have := HG.out; have := HF.out; have := HH.out; omega
          have XA := box (X.out.alloc (.cells #[.int .u64 G, .int .u64 (G + 1), .string tx] 33))
          have R0 := box (Whole1.made wr 33 #[.int .u64 G, .int .u64 (G + 1), .string tx])
          have hne : w.heap.size ≠ wr.heap.size := by have := X.out.lt; omega
          have GG := box (And.intro hG0 hGb)
          have NE := box (own_ne O.out X.out (by decide))
          clear hG0 hGb
          rcases Nat.lt_trichotomy k m with hkm | hkm | hkm
          · refine (take_again _ _ _ _ _ _ _ _ _ rfl GG.out.1 GG.out.2 (by have := HG.out; omega) (by omega) (by have := HH.out; omega) XA.out).mono ?_
            rintro e w2 ⟨rfl, hx2, hb2⟩
            have X2 := box hx2
            have B2 := box (grown_trans (Only.alloc (World.grownBy.refl wr (some w.heap.size)) _) hb2)
            have O2 := box (own_kept O.out B2.out (.inr NE.out))
            have hsz2 : w.heap.size ≤ w2.heap.size := by have := B2.out.size; omega
            clear hx2 hb2
            have t1 : ((k : Int) == (m : Int)) = false := by simp; omega
            have t2 : (k == m) = false := by simp; omega
            have t3 : decide (m < k) = false := by simp; omega
            go_wp2_with fail
            refine ⟨⟨q + 1, m, ag + 1, gp, by have := HH.out; omega, rfl, rfl, by have := HH.out; omega, by have := HH.out; omega, by have := HH.out; omega, by have := HH.out; omega, X2.out, O2.out, Below.grown B.out B2.out hsz (by simp)⟩, by have := HH.out; simp only [intOf]; omega⟩
          · refine (take_fresh _ _ _ _ _ _ _ _ _ rfl GG.out.1 GG.out.2 (by have := HG.out; simp; omega) (by have := HG.out; simp; omega) (by omega) (by have := HH.out; omega) (by omega) (by have := HH.out; have := HF.out; omega) XA.out).mono ?_
            rintro e w2 ⟨rfl, hx2, hb2⟩
            have X2 := box hx2
            have B2 := box (grown_trans (Only.alloc (World.grownBy.refl wr (some w.heap.size)) _) hb2)
            have O2 := box (own_kept O.out B2.out (.inr NE.out))
            have hsz2 : w.heap.size ≤ w2.heap.size := by have := B2.out.size; omega
            have r2 := R0.out.grown hb2 (by simp; omega)
            have r20 := r2.cell 0
            have r21 := r2.cell 1
            have r22 := r2.cell 2
            clear hx2 hb2
            have t1 : ((k : Int) == (m : Int)) = true := by simp; omega
            have t2 : (k == m) = true := by simp; omega
            have t3 : decide (m < k) = false := by simp; omega
            obtain ⟨z33, hi, hz0, hz1, hz2⟩ := some33
            go_wp2_with (at_builtin; refine append_one w2 rfl (.tmp 110) (.tmp 112) 31 rfl w.heap.size 33 z33 (.agg #[.int .u64 0, .int .u64 0, .string ⟨#[]⟩]) 3 32 Try.underlying31 hi hz0 hz1 hz2 rfl (by decide) _ _ _ rfl O2.out [.int .u64 G, .int .u64 (G + 1), .string tx] rfl rfl ?c2 ?c3 ?c4 hsz2 ?_ rfl)
            case c2 => intro u hu; simp at hu; rcases hu with rfl | rfl | rfl <;> rfl
            case c3 => have := HH.out; unfold maxLen; omega
            case c4 => have := HH.out; omega
            intro v1 w3 hown1 hbel1 hgrown
            have X3 := box (X2.out.grown hgrown (fun h => own_ne O2.out X2.out (by decide) h.symm))
            have O3 := box hown1
            have B3 := box (Below.trans (Below.grown B.out B2.out hsz (by simp)) hbel1)
            clear hown1 hbel1 hgrown
            go_wp2_with fail
            refine ⟨⟨q + 1, m + 1, ag, gp, by have := HH.out; omega, rfl, rfl, by have := HH.out; omega, by have := HH.out; omega, by have := HH.out; omega, by have := HH.out; omega, X3.out.to (by simp; omega), (by rw [gotTo_succ]; have e1 := HG.out; have e2 := HT.out; subst hkm; rw [e2, show ((F + k : Nat) : Int) = G by omega, show ((F + k + 1 : Nat) : Int) = G + 1 by omega]; exact O3.out), B3.out⟩, by have := HH.out; simp only [intOf]; omega⟩
          · refine (take_gap _ _ _ _ _ _ _ _ _ rfl GG.out.1 GG.out.2 (by have := HG.out; simp; omega) (by have := HG.out; omega) (by omega) (by have := HH.out; omega) XA.out).mono ?_
            rintro e w2 ⟨rfl, hx2, hb2⟩
            have X2 := box hx2
            have B2 := box (grown_trans (Only.alloc (World.grownBy.refl wr (some w.heap.size)) _) hb2)
            have O2 := box (own_kept O.out B2.out (.inr NE.out))
            have hsz2 : w.heap.size ≤ w2.heap.size := by have := B2.out.size; omega
            clear hx2 hb2
            have t1 : ((k : Int) == (m : Int)) = false := by simp; omega
            have t2 : (k == m) = false := by simp; omega
            have t3 : decide (m < k) = true := by simp; omega
            go_wp2_with fail
            refine ⟨⟨q + 1, m, ag, gp + 1, by have := HH.out; omega, rfl, rfl, by have := HH.out; omega, by have := HH.out; omega, by have := HH.out; omega, by have := HH.out; omega, X2.out, O2.out, Below.grown B.out B2.out hsz (by simp)⟩, by have := HH.out; simp only [intOf]; omega⟩
        · obtain ⟨k, hk⟩ : ∃ k, q = lo + k := ⟨q - lo, by omega⟩
          have hkm : k ≤ m := by omega
          have hkn : k < n := by omega
          have hcell : wr.cell? ⟨tb, tf + k, none⟩ = some (.string (ss.getD k ByteArray.empty)) := (B.out.cell (by exact htb)).trans (htc k hkn)
          generalize hT : ss.getD k ByteArray.empty = tx at hcell
          generalize hG : (F : Int) + (k : Int) = G
          have eG : IntKind.u64.wrap ((F : Int) + (k : Int)) = G := by have := HF.out; have := HS.out.2.2.1; rw [hG, IntKind.wrap_u64]; unfold maxLen at this; omega
          have eG1 : IntKind.u64.wrap (G + 1) = G + 1 := by have := HF.out; have := HS.out.2.2.1; unfold maxLen at this; rw [IntKind.wrap_u64]; omega
          have HG := box hG; clear hG
          have HT := box hT; clear hT
          have HH := box (And.intro hq (And.intro hm (And.intro hqm (And.intro hag (And.intro hgp (And.intro hlt (And.intro hql (And.intro hk (And.intro hkm (And.intro hkn (And.intro htb htc)))))))))))
          have d1 : (q : Int) - (lo : Int) = (k : Int) := by omega
          have d2 : ¬ (q : Int) < (lo : Int) := by omega
          have d3 : (k : Int) < (n : Int) := by omega
          have d4 : 0 ≤ (k : Int) := by omega
          clear hq hm hqm hag hgp hlt hql hk hkm hkn htb htc
          go_wp2_with fail
          have hG0 : 0 ≤ G := by have := HG.out; omega
          have hGb : ¬ (1099511627776 : Int) ≤ G := by have := HG.out; have := HF.out; have := HH.out; omega
          have XA := box (X.out.alloc (.cells #[.int .u64 G, .int .u64 (G + 1), .string tx] 33))
          have R0 := box (Whole1.made wr 33 #[.int .u64 G, .int .u64 (G + 1), .string tx])
          have hne : w.heap.size ≠ wr.heap.size := by have := X.out.lt; omega
          have GG := box (And.intro hG0 hGb)
          have NE := box (own_ne O.out X.out (by decide))
          clear hG0 hGb
          by_cases hkm : k < m
          · refine (take_again _ _ _ _ _ _ _ _ _ rfl GG.out.1 GG.out.2 (by have := HG.out; omega) (by omega) (by have := HH.out; omega) XA.out).mono ?_
            rintro e w2 ⟨rfl, hx2, hb2⟩
            have X2 := box hx2
            have B2 := box (grown_trans (Only.alloc (World.grownBy.refl wr (some w.heap.size)) _) hb2)
            have O2 := box (own_kept O.out B2.out (.inr NE.out))
            have hsz2 : w.heap.size ≤ w2.heap.size := by have := B2.out.size; omega
            clear hx2 hb2
            have t1 : ((k : Int) == (m : Int)) = false := by simp; omega
            have t2 : (k == m) = false := by simp; omega
            have t3 : decide (m < k) = false := by simp; omega
            go_wp2_with fail
            refine ⟨⟨q + 1, m, ag + 1, gp, by have := HH.out; omega, rfl, rfl, by have := HH.out; omega, by have := HH.out; omega, by have := HH.out; omega, by have := HH.out; omega, X2.out, O2.out, Below.grown B.out B2.out hsz (by simp)⟩, by have := HH.out; simp only [intOf]; omega⟩
          · have hkm : k = m := by have := HH.out; omega
            refine (take_fresh _ _ _ _ _ _ _ _ _ rfl GG.out.1 GG.out.2 (by have := HG.out; simp; omega) (by have := HG.out; simp; omega) (by omega) (by have := HH.out; omega) (by omega) (by have := HH.out; have := HF.out; omega) XA.out).mono ?_
            rintro e w2 ⟨rfl, hx2, hb2⟩
            have X2 := box hx2
            have B2 := box (grown_trans (Only.alloc (World.grownBy.refl wr (some w.heap.size)) _) hb2)
            have O2 := box (own_kept O.out B2.out (.inr NE.out))
            have hsz2 : w.heap.size ≤ w2.heap.size := by have := B2.out.size; omega
            have r2 := R0.out.grown hb2 (by simp; omega)
            have r20 := r2.cell 0
            have r21 := r2.cell 1
            have r22 := r2.cell 2
            clear hx2 hb2
            have t1 : ((k : Int) == (m : Int)) = true := by simp; omega
            have t2 : (k == m) = true := by simp; omega
            have t3 : decide (m < k) = false := by simp; omega
            obtain ⟨z33, hi, hz0, hz1, hz2⟩ := some33
            go_wp2_with (at_builtin; refine append_one w2 rfl (.tmp 110) (.tmp 112) 31 rfl w.heap.size 33 z33 (.agg #[.int .u64 0, .int .u64 0, .string ⟨#[]⟩]) 3 32 Try.underlying31 hi hz0 hz1 hz2 rfl (by decide) _ _ _ rfl O2.out [.int .u64 G, .int .u64 (G + 1), .string tx] rfl rfl ?c2 ?c3 ?c4 hsz2 ?_ rfl)
            case c2 => intro u hu; simp at hu; rcases hu with rfl | rfl | rfl <;> rfl
            case c3 => have := HH.out; unfold maxLen; omega
            case c4 => have := HH.out; omega
            intro v1 w3 hown1 hbel1 hgrown
            have X3 := box (X2.out.grown hgrown (fun h => own_ne O2.out X2.out (by decide) h.symm))
            have O3 := box hown1
            have B3 := box (Below.trans (Below.grown B.out B2.out hsz (by simp)) hbel1)
            clear hown1 hbel1 hgrown
            go_wp2_with fail
            refine ⟨⟨q + 1, m + 1, ag, gp, by have := HH.out; omega, rfl, rfl, by have := HH.out; omega, by have := HH.out; omega, by have := HH.out; omega, by have := HH.out; omega, X3.out.to (by simp; omega), (by rw [gotTo_succ]; have e1 := HG.out; have e2 := HT.out; subst hkm; rw [e2, show ((F + k : Nat) : Int) = G by omega, show ((F + k + 1 : Nat) : Int) = G + 1 by omega]; exact O3.out), B3.out⟩, by have := HH.out; simp only [intOf]; omega⟩
    · have hmn : m = n := by omega
      subst hmn
      obtain ⟨ga, gc, rfl⟩ := own_any O.out
      have eN : IntKind.u64.wrap ((F : Int) + (m : Int)) = (F : Int) + (m : Int) := by have := HF.out; rw [IntKind.wrap_u64]; omega
      have HH := box (And.intro hq (And.intro hm (And.intro hqm (And.intro hag (And.intro hgp HZ.out)))))
      have d0 : ¬ (q : Int) < (lo : Int) + (m : Int) := by omega
      clear hq hm hqm hag hgp HZ hlt
      go_wp2_with fail
      refine (next_any _ _ _ _ _ _ X.out).mono ?_
      rintro e w2 ⟨rfl, rfl⟩
      have eS : ((F : Int) + (m : Int) == (F : Int) + (m : Int)) = true := by simp
      go_wp2_with fail
      go_loopw [17] (fun c w4 => ∃ j : Nat, j ≤ m ∧ c = .int .i64 j ∧ w4.ownsRow w.heap.size 33 3 (.slice ga m gc) m (gotTo F ss m) ∧ Below w.heap.size w w4) (fun c _ => m - (intOf c).toNat)
      case atStart => exact ⟨0, Nat.zero_le _, rfl, O.out, B.out⟩
      case round =>
        obtain ⟨j, hjm, rfl, hown4, hbel4⟩ := hrel
        have O4 := box hown4
        have B4 := box hbel4
        have J := box hjm
        clear hown4 hbel4 hjm X B O
        by_cases hj : j < m
        · have hj1 : decide (j < m) = true := by simpa using hj
          obtain ⟨tb, tf, rfl, htb, htc⟩ := HS.out.2.2.2 (by omega)
          obtain ⟨g4, c4, hv, hcs⟩ := own_cell O4.out (by omega)
          simp only [Value.slice.injEq, true_and] at hv
          obtain ⟨rfl, rfl⟩ := hv
          have hcell : wr.cell? ⟨tb, tf + j, none⟩ = some (.string (ss.getD j ByteArray.empty)) := (B4.out.cell (by exact htb)).trans (htc j hj)
          have q0 := hcs (j * 3) _ (gotTo_at0 F ss m j hj)
          have q2 := hcs (j * 3 + 2) _ (gotTo_at2 F ss m j hj)
          have eJ : IntKind.u64.wrap ((F : Int) + (j : Int)) = (F : Int) + (j : Int) := by have := HF.out; rw [IntKind.wrap_u64]; omega
          generalize ss.getD j ByteArray.empty = tx at *
          have ne1 : ((F : Int) + (j : Int) != (F : Int) + (j : Int)) = false := by simp
          have HT := box (And.intro htb htc)

          clear htb htc hcs
          have h33 := size33
          go_wp2_with fail
          go_quiet (fail)
          go_wp2_with fail
          refine ⟨⟨j + 1, by omega, rfl, (show (wr.drewN nq).ownsRow _ _ _ _ _ _ from O4.out), below_drewN B4.out _⟩, by simp only [intOf]; omega⟩
        · have hj1 : decide (j < m) = false := by simpa using hj
          go_wp2_with fail
          refine (alive22 _).mono ?_
          rintro e w5 ⟨rfl, hb5⟩
          go_wp2_with fail
          go_ret
          exact ⟨rfl, Below.grown B4.out (Only.below hb5 none) B4.out.size (by simp)⟩

theorem once_many (F : Nat) (ta oa : Option Addr) (n tc lo oc : Nat) (w : World) (h1 : (100 : Int) < (n : Int)) :
    Calls Try.prog 3 #[.int .u32 F, .slice ta n tc, .slice oa lo oc] w fun e w' => e = .returned (.bool true) ∧ Below w.heap.size w w' := by
  go_enter Try.func3, Try.ntmps3
  go_wp2_with fail
  refine (alive22 _).mono ?_
  rintro e w5 ⟨rfl, hb5⟩
  go_wp2_with fail
  go_ret
  exact ⟨rfl, hb5⟩

theorem once_long (F : Nat) (ta oa : Option Addr) (n tc lo oc : Nat) (w : World) (h1 : ¬ (100 : Int) < (n : Int)) (h2 : (300 : Int) < (lo : Int)) :
    Calls Try.prog 3 #[.int .u32 F, .slice ta n tc, .slice oa lo oc] w fun e w' => e = .returned (.bool true) ∧ Below w.heap.size w w' := by
  go_enter Try.func3, Try.ntmps3
  go_wp2_with fail
  refine (alive22 _).mono ?_
  rintro e w5 ⟨rfl, hb5⟩
  go_wp2_with fail
  go_ret
  exact ⟨rfl, hb5⟩

theorem inletOnce_walk {w : World} (f : Int) (fw : (Lit.int .u32 f).wf = true) (ta : Option Addr) (n tc : Nat) (ss : List ByteArray) (hs : Strs w ta n ss) (oa : Option Addr) (lo oc : Nat) (zs : List UInt8) (hz : Octets w oa lo zs) :
    Calls Try.prog 3 #[.int .u32 f, .slice ta n tc, .slice oa lo oc] w fun e w' => e = .returned (.bool true) ∧ Below w.heap.size w w' := by
  obtain ⟨F, rfl, hF⟩ := u32_nat fw
  by_cases h1 : (100 : Int) < (n : Int)
  · exact once_many F ta oa n tc lo oc w h1
  · by_cases h2 : (300 : Int) < (lo : Int)
    · exact once_long F ta oa n tc lo oc w h1 h2
    · exact once_main F ta oa n tc lo oc ss zs w (by omega) hs hz h1 h2

end Go.Proofs.Ytafialodjnjihaa
