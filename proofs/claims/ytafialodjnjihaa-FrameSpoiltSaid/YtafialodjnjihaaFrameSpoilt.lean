/- FrameSpoilt, the walk: where a byte is another one, the frames ahead of it are told, and ErrBad. No condition. -/
import Derived.Test.YtafialodjnjihaaFrameTorn
import Derived.Test.YtafialodjnjihaaWordBursts
namespace Go.Proofs.Ytafialodjnjihaa
open Go Go.RowKit Go.BigFrame
set_option maxRecDepth 100000
set_option linter.unusedVariables false

/-- All that the law on spoilt frames leans on, each under a name. -/
theorem spoilt_facts (ss : List ByteArray) (X : Nat) (y : UInt8) (hy : y ≠ 0) (hn : ss.length ≤ 200) (ht : total ss ≤ 32768) (h0 : 0 < ss.length) : ∃ (F : ByteArray) (N : Nat), frames ss = F ∧ F.size ≤ 35168 ∧ 0 < F.size ∧ X % F.size = N ∧ N < F.size ∧
    Box (∀ k, Wholes ss N k → Stops (turn F N y) (ss.take k) (pos ss k) 71) := by
  have hp : 0 < (frames ss).size := by rw [frames_size]; omega
  exact ⟨_, _, rfl, frames_small hn ht, hp, rfl, Nat.mod_lt X hp, box (fun k hk => spoilt_stops ss _ k y (small_of ht) (Nat.mod_lt X hp) hk hy)⟩

set_option maxHeartbeats 4000000 in
theorem frameSpoilt_walk {w : World} (a : Option Addr) (n c : Nat) (ss : List ByteArray) (hr : Strs w a n ss ∧ (∀ s ∈ ss, s.size ≤ 140737488355328) ∧ n ≤ c ∧ c ≤ maxLen ∧ (a = none → c = 0)) (x : Int) (xw : (Lit.int .u16 x).wf = true) (y : Int) (yw : (Lit.int .u8 y).wf = true) :
    Calls Try.prog 15 #[.slice a n c, .int .u16 x, .int .u8 y] w fun e w' => e = .returned (.bool true) ∧ Below w.heap.size w w' := by
  obtain ⟨X, rfl, hX⟩ := u16_nat xw
  obtain ⟨Y, rfl, hY⟩ := u8_nat yw
  obtain ⟨hr0, hm, hnc, hcm, hcn⟩ := hr
  have R := box (strs3_of hr0)
  have L := box (large7_any a n c ss w hm (strs3_of hr0))
  clear hr0 hm xw yw
  by_cases hz : n = 0 ∨ Y = 0
  · by_cases hn0 : n = 0
    · subst hn0
      clear hz
      go_enter Try.func15, Try.ntmps15
      go_wp2_with fail
      refine L.out.mono ?_
      rintro e w1 ⟨B, rfl, hB, rfl⟩
      clear hB
      cases B with
      | true =>
        go_wp2_with fail
        refine (alive07 _).mono ?_
        rintro e w2 ⟨rfl, hb⟩
        have HB := box hb
        clear hb
        go_wp2_with fail
        go_ret
        exact ⟨rfl, HB.out⟩
      | false =>
        go_wp2_with fail
        refine (alive07 _).mono ?_
        rintro e w2 ⟨rfl, hb⟩
        have HB := box hb
        clear hb
        go_wp2_with fail
        go_ret
        exact ⟨rfl, HB.out⟩
    · obtain rfl : Y = 0 := by omega
      have t0 : ((n : Int) == 0) = false := beq_eq_false_iff_ne.2 (by omega)
      clear hz
      go_enter Try.func15, Try.ntmps15
      go_wp2_with fail
      refine L.out.mono ?_
      rintro e w1 ⟨B, rfl, hB, rfl⟩
      clear hB
      cases B with
      | true =>
        go_wp2_with fail
        refine (alive07 _).mono ?_
        rintro e w2 ⟨rfl, hb⟩
        have HB := box hb
        clear hb
        go_wp2_with fail
        go_ret
        exact ⟨rfl, HB.out⟩
      | false =>
        go_wp2_with fail
        refine (alive07 _).mono ?_
        rintro e w2 ⟨rfl, hb⟩
        have HB := box hb
        clear hb
        go_wp2_with fail
        go_ret
        exact ⟨rfl, HB.out⟩
  · have t0 : ((n : Int) == 0) = false := by simp; omega
    have t1 : ((Y : Int) == 0) = false := by simp; omega
    go_enter Try.func15, Try.ntmps15
    go_wp2_with fail
    refine L.out.mono ?_
    rintro e w1 ⟨B, rfl, hB, rfl⟩
    cases B with
    | true =>
      go_wp2_with fail
      refine (alive07 _).mono ?_
      rintro e w2 ⟨rfl, hb⟩
      have HB := box hb
      clear hb
      go_wp2_with fail
      go_ret
      exact ⟨rfl, HB.out⟩
    | false =>
      obtain ⟨hn, ht⟩ := hB rfl
      obtain ⟨F, N, hF, hf, hf0, hXN, hN, ST⟩ := spoilt_facts ss X (UInt8.ofNat Y) (by intro h; have := congrArg UInt8.toNat h; simp at this; omega) (by rw [R.out.1]; exact hn) ht (by rw [R.out.1]; omega)
      have C1 := box (frameAll_any a n c ss w R.out hn ht)
      rw [hF] at C1
      have C2 := box (fun W => frameScan_any (turn F N (UInt8.ofNat Y)) W (by rw [turn_size]; omega))
      have C3 := box (fun W (h : Strs3 W a n ss) => whole_any a n c ss N W h hn ht (by omega))
      have hmod : (X : Int) % (F.size : Int) = (N : Int) := by rw [← hXN]; push_cast; rfl
      have tF : ((F.size : Int) == 0) = false := beq_eq_false_iff_ne.2 (by omega)
      clear hF hXN hB ht hz
      go_wp2_with fail
      refine C1.out.mono ?_
      rintro e w2 ⟨rfl, hb2⟩
      have B2 := box hb2
      clear hb2
      have hcv := Lib.run_convert_string_bytes (P := Try.prog) w2 9 24 5 F Try.underlying9 Try.underlying24 Try.underlying5
      have BW := box (Below.trans B2.out ((Lib.bytesWorld_below w2 5 F).mono B2.out.size))
      have BC := box (ByteBlock.made w2 F)
      generalize Lib.bytesWorld w2 5 F = wb at *
      generalize grownCap w2 F.size 0 5 = cap at *
      have hX0 : (0 : Int) ≤ (X : Int) := by omega
      have hNl : N < F.data.toList.length := by rw [← sizeL]; exact hN
      have hc := BC.out.cell N hNl
      have hfz := BC.out.frozen N hNl
      unfold byteV at hc
      obtain ⟨q, hq⟩ : ∃ q, q = F.data.toList[N] := ⟨_, rfl⟩
      rw [← hq] at hc
      have HQ := box hq
      clear hq
      obtain ⟨r, hr⟩ : ∃ r, r = q ^^^ UInt8.ofNat Y := ⟨_, rfl⟩
      have hx : bits BinOp.xor IntKind.u8 (q.toNat : Int) (Y : Int) = ((r.toNat : Nat) : Int) := by
        rw [hr, xor_u8 _ _ q.toNat_lt hY, UInt8.toNat_xor, UInt8.toNat_ofNat', Nat.mod_eq_of_lt hY]
      have BT : Box (ByteBlock (wb.setCell ⟨w2.heap.size, N, none⟩ (.int .u8 (r.toNat : Int))) w2.heap.size (turn F N (UInt8.ofNat Y)).data.toList) := by
        have h1 := BC.out.put N hNl r
        have e1 : (turn F N (UInt8.ofNat Y)).data.toList = F.data.toList.set N r := by
          rw [turn_L, hr, HQ.out, List.getD_eq_getElem?_getD, List.getElem?_eq_getElem hNl]; rfl
        rw [e1]; exact box h1
      clear hr
      have hN1 : (N : Int) < (F.size : Int) := by omega
      have hsz : (F.data.toList.length) = F.size := len_list F
      have BT2 := box (Below.setCell BW.out (p := ⟨w2.heap.size, N, none⟩) B2.out.size (.int .u8 (r.toNat : Int)))
      have hst5 := BT.out.str cap
      rw [← sizeL, turn_size] at hst5
      have eL : (⟨(turn F N (UInt8.ofNat Y)).data.toList.toArray⟩ : ByteArray) = turn F N (UInt8.ofNat Y) := mk_list _
      rw [eL] at hst5
      clear eL
      clear HQ hNl hsz
      go_wp2_with fail
      rw [hmod]
      have HM := box hmod
      have W5 := box BT2.out
      clear hmod hst5 hx hcv hc hfz BT BC BT2
      generalize wb.setCell ⟨w2.heap.size, N, none⟩ (.int .u8 (r.toNat : Int)) = w5 at *
      refine (C2.out _).mono ?_
      rintro e w3 ⟨v, l, p, er, hst, rfl, hown, hb3⟩
      obtain ⟨a3, c3, rfl, hr3⟩ := strs3_own hown
      have B3 := box (Below.grown W5.out (Only.below hb3 none) W5.out.size (by simp))
      have R0 := box (strs3_below R.out B3.out)
      have R3 := box hr3
      have HST := box hst
      clear hst hown hb3 hr3
      go_wp2_with fail
      refine (C3.out _ R0.out).mono ?_
      rintro e w4 ⟨k, hk, rfl, rfl⟩
      obtain ⟨rfl, rfl, rfl⟩ := HST.out.one (ST.out k hk)
      have hkn : k ≤ n := by have := hk.1; rw [R.out.1] at this; exact this
      have hlk : (ss.take k).length = k := by rw [List.length_take, R.out.1]; omega
      rw [hlk] at R3 ⊢
      have R4 := box (strs3_take R0.out k hkn)
      have HK := box hk
      clear hk ST HST hlk
      generalize pos ss k = P at *
      have C5 := box (fun (v : Option Addr) (c5 : Nat) W (h1 : Strs3 W a3 k (ss.take k)) (h2 : Strs3 W v k (ss.take k)) => sameTexts_any a3 v k c3 c5 (ss.take k) W h1 h2)
      have hkc : k ≤ c := by omega
      go_wp2_with fail
      refine (C5.out _ _ _ R3.out R4.out).mono ?_
      rintro e w6 ⟨rfl, q6, rfl⟩
      go_wp2_with fail
      refine (alive07 _).mono ?_
      rintro e w7 ⟨rfl, hb7⟩
      have B7 := box (Below.grown (below_drewN B3.out q6) (Only.below hb7 none) (below_drewN B3.out q6).size (by simp))
      clear hb7
      go_wp2_with fail
      go_ret
      exact ⟨rfl, B7.out⟩
end Go.Proofs.Ytafialodjnjihaa
