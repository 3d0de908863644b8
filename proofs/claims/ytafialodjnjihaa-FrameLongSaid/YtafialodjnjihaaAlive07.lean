/- The examples of the chapter on frames. No condition. -/
import Derived.Test.YtafialodjnjihaaWhole
import Derived.Deep.RegionWith
namespace Go.Proofs.Ytafialodjnjihaa
open Go Go.RowKit Go.BigFrame
set_option maxRecDepth 100000
set_option linter.unusedVariables false
def tA : ByteArray := ⟨#[97]⟩
def tB : ByteArray := ⟨#[98]⟩
def zero4 : ByteArray := ⟨#[0, 0, 0, 0]⟩
theorem frame_empty : ∃ S : ByteArray, frame ⟨#[]⟩ = S ∧ S.size = 12 ∧ S.extract 0 4 = zero4 ∧ S.extract 8 12 = zero4 := by
  have e := frame_parts ⟨#[]⟩ ⟨#[]⟩
  have e0 : frame ⟨#[]⟩ ++ (⟨#[]⟩ : ByteArray) = frame ⟨#[]⟩ := by apply toL; rw [catL]; simp
  rw [e0] at e
  obtain ⟨h1, h2, h3, h4, h5⟩ := parts (four (⟨#[]⟩ : ByteArray).size) (four (sumB (four (⟨#[]⟩ : ByteArray).size))) (four (sumB ⟨#[]⟩)) (⟨#[]⟩ ++ ⟨#[]⟩) (four_size _) (four_size _) (four_size _)
  refine ⟨_, rfl, by rw [frame_size]; rfl, ?_, ?_⟩
  · rw [e, h1]; rfl
  · rw [e, h3]
    have : sumB ⟨#[]⟩ = 0 := by decide
    rw [this]; rfl
theorem total_ab : total [tA, tB] = 2 := rfl
theorem frames_ab : (frames [tA, tB]).size = 26 := by rw [frames_size]; rfl
theorem scan_ab : Stops ((frames [tA, tB]).extract 0 25) [tA] 13 70 := by
  have h := torn_stops [tA, tB] 25 1 (by intro s hs; rcases List.mem_cons.1 hs with rfl | hs; decide; rcases List.mem_cons.1 hs with rfl | hs; decide; cases hs) (by rw [frames_ab]; decide) ⟨by decide, by decide, fun _ => by decide⟩
  exact h
theorem turn_ab : ((frames [tA, tB]).extract 0 12 ++ ⟨#[120]⟩) ++ (frames [tA, tB]).extract 13 26 = turn (frames [tA, tB]) 12 25 := by
  have e := frames_at [tA, tB] 0 (by decide)
  have e1 : frames (List.take 0 [tA, tB]) = ⟨#[]⟩ := rfl
  have e2 : [tA, tB].getD 0 ByteArray.empty = tA := rfl
  have e3 : frame tA = head tA ++ tA := rfl
  have hh : (head tA).size = 12 := by
    have := frame_size tA
    rw [e3, ByteArray.size_append] at this
    have h1 : tA.size = 1 := rfl
    omega
  have e4 : frames [tA, tB] = head tA ++ (tA ++ frames [tB]) := by
    rw [frames_one, e3, ByteArray.append_assoc]
  have hT : (frames [tB]).size = 13 := by rw [frames_size]; rfl
  rw [e4, turn_right _ _ 12 0 _ (by rw [hh]), turn_left _ _ _ _ (by decide), ext_left _ _ _ hh]
  have e5 : turn tA 0 25 = ⟨#[120]⟩ := by decide
  have e6 : (head tA ++ (tA ++ frames [tB])).extract 13 26 = frames [tB] := by
    have h1 := ext_right (head tA) (tA ++ frames [tB]) 1 14 12 hh
    rw [show (13 : Nat) = 12 + 1 from rfl, show (26 : Nat) = 12 + 14 from rfl, h1]
    have h2 := ext_right tA (frames [tB]) 0 13 1 rfl
    rw [show (14 : Nat) = 1 + 13 from rfl]
    rw [show (1 : Nat) + 0 = 1 from rfl] at h2
    rw [h2, ext_all _ _ hT]
  rw [e5, e6, ByteArray.append_assoc]
theorem spoilt_ab : Stops (((frames [tA, tB]).extract 0 12 ++ ⟨#[120]⟩) ++ (frames [tA, tB]).extract 13 26) [] 0 71 := by
  rw [turn_ab]
  exact spoilt_stops [tA, tB] 12 0 25 (by intro s hs; rcases List.mem_cons.1 hs with rfl | hs; decide; rcases List.mem_cons.1 hs with rfl | hs; decide; cases hs) (by rw [frames_ab]; decide) ⟨by decide, by decide, fun _ => by decide⟩ (by decide)

/-- A scan whose end is known. -/
theorem scanKnown {b : ByteArray} {w w' : World} {e : Ending} {l : List ByteArray} {p er : Nat} (h : ScanSays b w e w') (hs : Stops b l p er) :
    ∃ a cap, e = .returned (.tuple #[.slice a l.length cap, .int .i64 (p : Nat), .int .i64 (er : Nat)]) ∧ Strs3 w' a l.length l ∧ Below w.heap.size w w' := by
  obtain ⟨v, l', p', er', hs', rfl, ho, hb⟩ := h
  obtain ⟨rfl, rfl, rfl⟩ := hs'.one hs
  obtain ⟨a, cap, rfl, h3⟩ := strs3_own ho
  exact ⟨a, cap, rfl, h3, hb⟩
def ScanIs (l : List ByteArray) (p er : Nat) (w : World) (e : Ending) (w' : World) : Prop :=
  ∃ a cap, e = .returned (.tuple #[.slice a l.length cap, .int .i64 (p : Nat), .int .i64 (er : Nat)]) ∧ Strs3 w' a l.length l ∧ Below w.heap.size w w'
theorem scanIs {b : ByteArray} {l : List ByteArray} {p er : Nat} (hs : Stops b l p er) (hb : b.size ≤ 1000000000) (w : World) : Calls Try.prog 59 #[.string b] w (ScanIs l p er w) :=
  (frameScan_any b w hb).mono fun _ _ h => scanKnown h hs
theorem ab_facts : ∃ F : ByteArray, frames [tA, tB] = F ∧ F.size = 26 ∧ Box (Stops (F.extract 0 25) [tA] 13 70) ∧ Box (Stops ((F.extract 0 12 ++ ⟨#[120]⟩) ++ F.extract 13 26) [] 0 71) := ⟨_, rfl, frames_ab, box scan_ab, box spoilt_ab⟩

set_option maxHeartbeats 4000000 in
theorem alive07 (w : World) : Calls Try.prog 53 #[] w fun e w' => e = .returned (.bool true) ∧ Below w.heap.size w w' := by
  have C1 := box (fun W => framePut_ok ⟨#[]⟩ W (by decide))
  have C2 := box (fun W : World => frameAll_any (some ⟨W.heap.size, 0, none⟩) 2 2 [tA, tB] (W.alloc (.cells #[.string tA, .string tB] 9)) (strs3_two W tA tB) (by decide) (by rw [total_ab]; decide))
  obtain ⟨F, hF, hf1, hf2, hf3⟩ := ab_facts
  rw [hF] at C2
  clear hF
  have C3 := box (fun W => scanIs hf2.out (by simp [ByteArray.size_extract]; omega) W)
  have C4 := box (fun W => scanIs hf3.out (by have h1 : (⟨#[120]⟩ : ByteArray).size = 1 := rfl; simp [ByteArray.size_extract, h1]; omega) W)
  obtain ⟨S, hS, hs1, hs2, hs3⟩ := frame_empty
  rw [hS] at C1
  clear hS
  have g1 : (4 : Int) ≤ (S.size : Int) := by omega
  have g2 : (8 : Int) ≤ (S.size : Int) := by omega
  have g3 : (25 : Int) ≤ (F.size : Int) := by omega
  have g4 : (12 : Int) ≤ (F.size : Int) := by omega
  have g5 : (13 : Int) ≤ (F.size : Int) := by omega
  have t1 : ((S.extract 0 4).toList == [0, 0, 0, 0]) = true := by rw [hs2, Go.ByteArray.toList_eq]; rfl
  have t2 : ((S.extract 8 12).toList == [0, 0, 0, 0]) = true := by rw [hs3, Go.ByteArray.toList_eq]; rfl
  have HS := box hs1
  have HF := box hf1
  clear hs2 hs3
  go_enter Try.func53, Try.ntmps53
  go_wp2_with fail
  refine (C1.out _).mono ?_
  rintro e w1 ⟨rfl, hb1⟩
  have B1 := box hb1
  clear hb1
  go_wp2_with fail
  refine (C2.out _).mono ?_
  rintro e w2 ⟨rfl, hb2⟩
  have B2 := box (Below.grown (Below.alloc B1.out B1.out.size (.cells #[.string tA, .string tB] 9)) (Only.below hb2 none) (Nat.le_trans B1.out.size (by simp)) (by simp))
  clear hb2
  go_wp2_with fail
  refine (C3.out _).mono ?_
  rintro e w3 ⟨a3, cap3, rfl, hr3, hb3⟩
  have B3 := box (Below.grown B2.out (Only.below hb3 none) B2.out.size (by simp))
  have R3 := box hr3
  clear hb3 hr3
  go_wp2_with fail
  go_region_with (go_at_call 59; refine (C4.out _).mono ?_; rintro e w4 ⟨a4, cap4, rfl, hr4, hb4⟩)
  have hb34 : Below w3.heap.size w3 w4 := Below.trans (Below.drew (Below.refl _ _)) hb4
  have B4 := box (Below.grown B3.out (Only.below hb34 none) B3.out.size (by simp))
  have R4 := box (strs3_below (strs3_below R3.out hb34) (Below.alloc (Below.refl _ _) (Nat.le_refl _) (.cells #[.string tA] 9)))
  have R5 := box (strs3_one w4 tA)
  clear hb34 hb4 hr4
  go_wp2_with fail
  refine (sameTexts_any _ _ 1 _ _ [tA] _ R4.out R5.out).mono ?_
  rintro e w5 ⟨rfl, q, rfl⟩
  go_wp2_with fail
  go_ret
  exact ⟨rfl, below_drewN (Below.alloc B4.out B4.out.size _) q⟩
end Go.Proofs.Ytafialodjnjihaa
