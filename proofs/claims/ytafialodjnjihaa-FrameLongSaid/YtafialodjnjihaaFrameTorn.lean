/- FrameTorn, the walk: any beginning of frames is told as those that are whole, and OK or ErrTorn. No condition. -/
import Derived.Test.YtafialodjnjihaaSized
namespace Go.Proofs.Ytafialodjnjihaa
open Go Go.RowKit Go.BigFrame
set_option maxRecDepth 100000
set_option linter.unusedVariables false

theorem small_of {ss : List ByteArray} (h : total ss ≤ 32768) : ∀ s ∈ ss, s.size ≤ 4194304 := by
  intro s hs
  obtain ⟨i, hi, rfl⟩ := List.mem_iff_getElem.1 hs
  have := at_le h i hi
  have e : ss.getD i ByteArray.empty = ss[i] := by simp [hi]
  rw [e] at this; omega
theorem frames_small {ss : List ByteArray} (hn : ss.length ≤ 200) (ht : total ss ≤ 32768) : (frames ss).size ≤ 35168 := by
  have := frames_le ss ss.length hn ht (Nat.le_refl _)
  rwa [List.take_length] at this
/-- All that the law on torn frames leans on, each under a name. -/
theorem torn_facts (ss : List ByteArray) (X : Nat) (hn : ss.length ≤ 200) (ht : total ss ≤ 32768) : ∃ (F : ByteArray) (N : Nat), frames ss = F ∧ F.size ≤ 35168 ∧ X % (F.size + 1) = N ∧ N ≤ F.size ∧
    Box (∀ k, Wholes ss N k → Stops (F.extract 0 N) (ss.take k) (pos ss k) (if pos ss k = N then 0 else 70)) := by
  refine ⟨_, _, rfl, frames_small hn ht, rfl, Nat.le_of_lt_succ (Nat.mod_lt X (Nat.succ_pos _)), box (fun k hk => torn_stops ss _ k (small_of ht) (Nat.le_of_lt_succ (Nat.mod_lt X (Nat.succ_pos _))) hk)⟩

set_option maxHeartbeats 4000000 in
theorem frameTorn_walk {w : World} (a : Option Addr) (n c : Nat) (ss : List ByteArray) (hr : Strs w a n ss ∧ (∀ s ∈ ss, s.size ≤ 140737488355328) ∧ n ≤ c ∧ c ≤ maxLen ∧ (a = none → c = 0)) (x : Int) (xw : (Lit.int .u16 x).wf = true) :
    Calls Try.prog 14 #[.slice a n c, .int .u16 x] w fun e w' => e = .returned (.bool true) ∧ Below w.heap.size w w' := by
  obtain ⟨X, rfl, hX⟩ := u16_nat xw
  obtain ⟨hr0, hm, hnc, hcm, hcn⟩ := hr
  have R := box (strs3_of hr0)
  have L := box (large7_any a n c ss w hm (strs3_of hr0))
  clear hr0 hm xw
  go_enter Try.func14, Try.ntmps14
  go_wp2_with fail
  refine L.out.mono ?_
  rintro e w1 ⟨B, rfl, hB, rfl⟩
  cases B with
  | true =>
    go_wp2_with fail
    refine (alive07 _).mono ?_
    rintro e w2 ⟨rfl, hb⟩
    have HB := box hb
    clear hb
    go_wp2_with fail
    go_ret
    exact ⟨rfl, HB.out⟩
  | false =>
    obtain ⟨hn, ht⟩ := hB rfl
    obtain ⟨F, N, hF, hf, hXN, hN, ST⟩ := torn_facts ss X (by rw [R.out.1]; exact hn) ht
    have C1 := box (frameAll_any a n c ss w R.out hn ht)
    rw [hF] at C1
    have C2 := box (fun W => frameScan_any (F.extract 0 N) W (by simp [ByteArray.size_extract]; omega))
    have C3 := box (fun W (h : Strs3 W a n ss) => whole_any a n c ss N W h hn ht (by omega))
    have hmod : (X : Int) % ((F.size : Int) + 1) = (N : Int) := by rw [← hXN]; push_cast; rfl
    clear hF hXN hB ht
    go_wp2_with fail
    refine C1.out.mono ?_
    rintro e w2 ⟨rfl, hb2⟩
    have B2 := box hb2
    clear hb2
    have hX0 : (0 : Int) ≤ (X : Int) := by omega
    have hN1 : (N : Int) ≤ (F.size : Int) := by omega
    go_wp2_with fail
    rw [hmod]
    have HM := box hmod
    clear hmod
    refine (C2.out _).mono ?_
    rintro e w3 ⟨v, l, p, er, hst, rfl, hown, hb3⟩
    obtain ⟨a3, c3, rfl, hr3⟩ := strs3_own hown
    have B3 := box (Below.grown B2.out (Only.below hb3 none) B2.out.size (by simp))
    have R0 := box (strs3_below R.out B3.out)
    have R3 := box hr3
    have HST := box hst
    clear hst hown hb3 hr3
    go_wp2_with fail
    refine (C3.out _ R0.out).mono ?_
    rintro e w4 ⟨k, hk, rfl, rfl⟩
    obtain ⟨rfl, rfl, rfl⟩ := HST.out.one (ST.out k hk)
    have hkn : k ≤ n := by have := hk.1; rw [R.out.1] at this; exact this
    have hlk : (ss.take k).length = k := by rw [List.length_take, R.out.1]; omega
    rw [hlk] at R3 ⊢
    have R4 := box (strs3_take R0.out k hkn)
    have HK := box hk
    have hpn := hk.2.1
    clear hk ST HST hlk
    generalize pos ss k = P at *
    have C5 := box (fun (v : Option Addr) (c5 : Nat) W (h1 : Strs3 W a3 k (ss.take k)) (h2 : Strs3 W v k (ss.take k)) => sameTexts_any a3 v k c3 c5 (ss.take k) W h1 h2)
    have hkc : k ≤ c := by omega
    by_cases hPN : P = N
    · subst hPN
      rw [if_pos rfl]
      go_wp2_with fail
      refine (C5.out _ _ _ R3.out R4.out).mono ?_
      rintro e w5 ⟨rfl, q, rfl⟩
      go_wp2_with fail
      refine (alive07 _).mono ?_
      rintro e w6 ⟨rfl, hb6⟩
      have B6 := box (Below.grown (below_drewN B3.out q) (Only.below hb6 none) (below_drewN B3.out q).size (by simp))
      clear hb6
      go_wp2_with fail
      go_ret
      exact ⟨rfl, B6.out⟩
    · rw [if_neg hPN]
      have t1 : ((P : Int) != (N : Int)) = true := by simp; omega
      have t2 : ((P : Int) == (N : Int)) = false := by simp; omega
      go_wp2_with fail
      refine (C5.out _ _ _ R3.out R4.out).mono ?_
      rintro e w5 ⟨rfl, q, rfl⟩
      go_wp2_with fail
      refine (alive07 _).mono ?_
      rintro e w6 ⟨rfl, hb6⟩
      have B6 := box (Below.grown (below_drewN B3.out q) (Only.below hb6 none) (below_drewN B3.out q).size (by simp))
      clear hb6
      go_wp2_with fail
      go_ret
      exact ⟨rfl, B6.out⟩
end Go.Proofs.Ytafialodjnjihaa
