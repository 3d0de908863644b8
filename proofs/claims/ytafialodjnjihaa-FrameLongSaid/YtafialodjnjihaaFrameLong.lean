/- FrameLong, the walk: how long a text may be. No condition. -/
import Derived.Test.YtafialodjnjihaaFrameTorn
namespace Go.Proofs.Ytafialodjnjihaa
open Go Go.RowKit Go.BigFrame
set_option maxRecDepth 100000
set_option linter.unusedVariables false

set_option maxHeartbeats 1000000 in
theorem frameAll_long (a : Option Addr) (c : Nat) (tx s : ByteArray) (w : World) (hr : Strs3 w a 2 [tx, s]) (ht : tx.size ≤ 1000) (hs : (4194304 : Int) < (s.size : Int)) :
    Calls Try.prog 54 #[.slice a 2 c] w fun e w' => e = .returned (.tuple #[.string ⟨#[]⟩, .int .i64 5]) ∧ Below w.heap.size w w' := by
  have HR := box hr; clear hr
  have B0 := box (Built.start w)
  obtain ⟨tb, tf, rfl, htb, htc⟩ := HR.out.2.2 (by omega)
  have cell0 : w.cell? ⟨tb, tf, none⟩ = some (.string tx) := htc 0 (by omega)
  have cell1 : w.cell? ⟨tb, tf + 1, none⟩ = some (.string s) := htc 1 (by omega)
  have CA := box (fun W => framePut_ok tx W (by omega))
  have CL := box (fun W => framePut_long s W hs)
  have FA := box (frame_size tx)
  clear htc
  go_enter Try.func54, Try.ntmps54
  go_wp2_with fail
  go_loopw [11] (fun c wr => (c = .int .i64 0 ∧ Built w ⟨#[]⟩ wr) ∨ (c = .int .i64 1 ∧ Built w (frame tx) wr)) (fun c _ => 2 - (intOf c).toNat)
  case atStart => exact .inl ⟨rfl, B0.out⟩
  case round =>
    rcases hrel with ⟨rfl, hb⟩ | ⟨rfl, hb⟩
    · have B := box hb; clear hb
      have hcell := (B.out.2.2.cell (by exact htb)).trans cell0
      obtain ⟨f, hf⟩ : ∃ f, frame tx = f := ⟨_, rfl⟩
      rw [hf] at CA FA ⊢
      have HF := box hf
      have hfs := FA.out
      have WR := box (fun W (h : Built w ⟨#[]⟩ W) => Built.write f h (by have h0 : (⟨#[]⟩ : ByteArray).size = 0 := rfl; rw [h0]; omega) (by omega))
      have e0 : (⟨#[]⟩ : ByteArray) ++ f = f := by apply ByteArray.ext; simp
      rw [e0] at WR
      clear hf hfs e0 ht
      go_wp2_with fail
      refine (CA.out _).mono ?_
      rintro e w1 ⟨rfl, hb1⟩
      have B1 := box (B.out.later hb1)
      clear hb1
      go_wp2_with fail
      refine (WR.out _ B1.out).mono ?_
      rintro e w2 ⟨rfl, hb2⟩
      have B2 := box hb2
      clear hb2
      go_wp2_with fail
      exact ⟨.inr ⟨rfl, B2.out⟩, by decide⟩
    · have B := box hb; clear hb
      have hcell := (B.out.2.2.cell (by exact htb)).trans cell1
      clear ht
      go_wp2_with fail
      refine (CL.out _).mono ?_
      rintro e w1 ⟨rfl, rfl⟩
      go_wp2_with fail
      go_ret2
      exact ⟨rfl, B.out.2.2⟩

theorem text_refl' (F : ByteArray) : (F.toList == F.toList) = true := beq_self_eq_true _
theorem zeros_row (n : Nat) : (madeCells #[Value.int .u8 0] n).toList = (List.replicate n (0 : UInt8)).map byteV := by
  rw [made_one]; simp [byteV]
/-- A text of n zero bytes. -/
def zeros (n : Nat) : ByteArray := ⟨(List.replicate n (0 : UInt8)).toArray⟩
theorem zeros_size (n : Nat) : (zeros n).size = n := by simp [zeros, ByteArray.size]

theorem scan_one (s : ByteArray) (hs : s.size ≤ 4194304) : Stops (frame s) [s] (12 + s.size) 0 := by
  have e : frame s = frames ([s].take 1) ++ ⟨#[]⟩ := by
    show frame s = frames [s] ++ ⟨#[]⟩
    rw [frames_one]; apply toL; rw [catL, catL]; simp [frames]
  have h := st_begin [s] (frame s) (by intro x hx; rcases List.mem_cons.1 hx with rfl | hx; exact hs; cases hx) 1 (Nat.le_refl 1) ⟨_, e⟩
  have hp : pos [s] 1 = 12 + s.size := by rw [pos_succ [s] 0 (Nat.zero_lt_one), pos_zero]; simp
  rw [hp] at h
  exact ⟨1, h, .inl ⟨(frame_size s).symm, rfl⟩⟩
/-- All that the law on long texts leans on, each under a name. -/
theorem long_facts (n : Nat) (hn : n ≤ 4194305) : ∃ Z : ByteArray, zeros n = Z ∧ Z.size = n ∧ (n ≤ 4194304 → ∃ G : ByteArray, frame Z = G ∧ G.size = 12 + n ∧ Box (Stops G [Z] (12 + n) 0)) :=
  ⟨_, rfl, zeros_size n, fun h => ⟨_, rfl, by rw [frame_size, zeros_size], box (by have := scan_one (zeros n) (by rw [zeros_size]; exact h); rw [zeros_size] at this; exact this)⟩⟩

set_option maxHeartbeats 4000000 in
theorem frameLong_walk (x : Int) (xw : (Lit.int .i8 x).wf = true) (w : World) :
    Calls Try.prog 16 #[.int .i8 x] w fun e w' => e = .returned (.bool true) ∧ Below w.heap.size w w' := by
  have hb := bounds_i8 xw
  obtain ⟨i0, hi, hz0, hz1, hz2⟩ := info_parts infoByte
  have hd1 : -1 ≤ x.tmod 2 ∧ x.tmod 2 ≤ 1 := by
    rcases Int.le_total 0 x with h | h
    · rw [Int.tmod_eq_emod_of_nonneg h]; omega
    · have e : x.tmod 2 = -((-x).tmod 2) := by rw [Int.neg_tmod, Int.neg_neg]
      rw [e, Int.tmod_eq_emod_of_nonneg (by omega)]; omega
  obtain ⟨n, hn⟩ : ∃ n : Nat, (4194304 : Int) + x.tmod 2 = (n : Int) := ⟨(4194304 + x.tmod 2).toNat, by omega⟩
  obtain ⟨Z, hZ, hZs, hG⟩ := long_facts n (by omega)
  have HN := box hn
  have hn5 : n ≤ 4194305 := by omega
  have hn0 : 4194303 ≤ n := by omega
  clear hn xw
  go_enter Try.func16, Try.ntmps16
  go_wp2_with (first | (at_make; refine wpList_make_full _ rfl (.tmp 14) (.tmp 14) 24 rfl w.heap.size 5 i0 (.int .u8 0) 1 Try.underlying24 hi hz0 hz1 .i64 .i64 _ _ n rfl rfl HN.out HN.out ?c1 ?c2 ?c3 ?_))
  case c1 => rw [hz2]; omega
  case c2 => unfold maxLen; omega
  case c3 => exact Nat.le_refl _
  clear HN hd1 hb
  intro w1 hown hg
  rw [zeros_row] at hown
  have hcv := str_of_row (List.replicate n 0) (by rw [List.length_replicate]; exact hown)
  have e1 : (⟨(List.replicate n (0 : UInt8)).toArray⟩ : ByteArray) = Z := hZ
  rw [e1] at hcv
  have B1 := box (Below.grown (Below.refl w.heap.size w) hg (Nat.le_refl _) (by simp))
  clear hown hg e1 hZ
  by_cases hlong : 4194304 < n
  · have CP := box (fun W => framePut_long Z W (by omega))
    have CA := box (fun W => frameAll_long (some ⟨W.heap.size, 0, none⟩) 2 tA Z (W.alloc (.cells #[.string tA, .string Z] 9)) (strs3_two W tA Z) (by decide) (by omega))
    have g1 : (4194304 : Int) < (Z.size : Int) := by omega
    clear hG
    go_wp2_with fail
    refine (CP.out _).mono ?_
    rintro e w2 ⟨rfl, rfl⟩
    go_wp2_with fail
    refine (CA.out _).mono ?_
    rintro e w3 ⟨rfl, hb3⟩
    have B3 := box (Below.grown (Below.alloc B1.out B1.out.size (.cells #[.string tA, .string Z] 9)) (Only.below hb3 none) (Nat.le_trans B1.out.size (by simp)) (by simp))
    clear hb3
    go_wp2_with fail
    refine (alive07 _).mono ?_
    rintro e w4 ⟨rfl, hb4⟩
    have B4 := box (Below.grown B3.out (Only.below hb4 none) B3.out.size (by simp))
    clear hb4
    go_wp2_with fail
    go_ret
    exact ⟨rfl, B4.out⟩
  · obtain ⟨G, hGe, hGs, hst⟩ := hG (by omega)
    have CP := box (fun W => framePut_ok Z W (by omega))
    rw [hGe] at CP
    have CS := box (fun W => scanIs hst.out (by omega) W)
    have g1 : ¬ (4194304 : Int) < (Z.size : Int) := by omega
    have g2 : ((G.size : Int) == (Z.size : Int) + 12) = true := by rw [beq_iff_eq]; omega
    have g3 : ((12 + n : Nat) : Int) = (G.size : Int) := by omega
    rw [← hGs] at CS
    have tz := text_refl' Z
    clear hGe hG hst
    go_wp2_with fail
    refine (CP.out _).mono ?_
    rintro e w2 ⟨rfl, hb2⟩
    have B2 := box (Below.grown B1.out (Only.below hb2 none) B1.out.size (by simp))
    clear hb2
    go_wp2_with fail
    refine (CS.out _).mono ?_
    rintro e w3 ⟨a3, c3, rfl, hr3, hb3⟩
    have B3 := box (Below.grown B2.out (Only.below hb3 none) B2.out.size (by simp))
    obtain ⟨rb, ro, rfl, hrb, hrc⟩ := hr3.2.2 (Nat.zero_lt_one)
    have hcell : w3.cell? ⟨rb, ro, none⟩ = some (.string Z) := hrc 0 (Nat.zero_lt_one)
    clear hb3 hr3 hrc
    go_wp2_with fail
    refine (alive07 _).mono ?_
    rintro e w4 ⟨rfl, hb4⟩
    have B4 := box (Below.grown B3.out (Only.below hb4 none) B3.out.size (by simp))
    clear hb4
    go_wp2_with fail
    go_ret
    exact ⟨rfl, B4.out⟩
end Go.Proofs.Ytafialodjnjihaa
