/- Comparing: cmp.Compare, strings.Compare, cmp.Or, each by one contract. No condition. -/
import Derived.Test.YtafialodjnjihaaDoorMakes
import Derived.Lib.Bytealg
import Derived.Deep.RegionWith
import Derived.StillTailTactics
namespace Go.Proofs.YtafialodjnjihaaDoor
open Go Go.RowKit
set_option maxRecDepth 100000
set_option linter.unusedVariables false

def cmpI (a b : Int) : Int := if a < b then -1 else if b < a then 1 else 0
theorem nan8 (a : Int) (w : World) : Calls Tryd.prog 82 #[.int .u8 a] w fun e w' => e = .returned (.bool false) ∧ w = w' := by
  go_enter Tryd.func82, Tryd.ntmps82
  go_wp2
  go_ret
  exact ⟨by simp, rfl⟩
theorem nan64 (a : Int) (w : World) : Calls Tryd.prog 83 #[.int .i64 a] w fun e w' => e = .returned (.bool false) ∧ w = w' := by
  go_enter Tryd.func83, Tryd.ntmps83
  go_wp2
  go_ret
  exact ⟨by simp, rfl⟩
theorem cmp8 (a b A : Int) (w : World) (HA : Box (A = cmpI a b)) : Calls Tryd.prog 64 #[.int .u8 a, .int .u8 b] w fun e w' => e = .returned (.int .i64 A) ∧ w = w' := by
  have C := box (fun (x : Int) W => nan8 x W)
  go_enter Tryd.func64, Tryd.ntmps64
  go_wp2_with (go_at_call 82; refine (C.out _ _).mono ?_; rintro e w1 ⟨rfl, rfl⟩)
  all_goals
    go_ret
    exact ⟨by rw [HA.out]; unfold cmpI; first | (rw [if_pos (by omega)]; rfl) | (rw [if_neg (by omega), if_pos (by omega)]; rfl) | (rw [if_neg (by omega), if_neg (by omega)]; rfl), rfl⟩
theorem cmp64 (a b A : Int) (w : World) (HA : Box (A = cmpI a b)) : Calls Tryd.prog 65 #[.int .i64 a, .int .i64 b] w fun e w' => e = .returned (.int .i64 A) ∧ w = w' := by
  have C := box (fun (x : Int) W => nan64 x W)
  go_enter Tryd.func65, Tryd.ntmps65
  go_wp2_with (go_at_call 83; refine (C.out _ _).mono ?_; rintro e w1 ⟨rfl, rfl⟩)
  all_goals
    go_ret
    exact ⟨by rw [HA.out]; unfold cmpI; first | (rw [if_pos (by omega)]; rfl) | (rw [if_neg (by omega), if_pos (by omega)]; rfl) | (rw [if_neg (by omega), if_neg (by omega)]; rfl), rfl⟩
def cmpT (a b : ByteArray) : Int := Lib.compareBytes a.data.toList b.data.toList
theorem cmpS_run (a b : ByteArray) (w : World) : (callFunc 96 #[.string a, .string b]).run Tryd.prog w = .ok (.value (.int .i64 (cmpT a b))) w := by
  rw [run_callFunc_extern (e := Extern.BytealgCompare.compare) Tryd.func96 (by kernel_rfl) (by kernel_rfl) (by kernel_rfl) (by kernel_rfl)]
  have h := Lib.run_compareString (P := Tryd.prog) a b w
  simp only [h, Result.andThen]
  rfl
theorem cmpS84 (a b : ByteArray) (w : World) : Calls Tryd.prog 84 #[.string a, .string b] w fun e w' => e = .returned (.int .i64 (cmpT a b)) ∧ w = w' := by
  have h := fun w => cmpS_run a b w
  go_enter Tryd.func84, Tryd.ntmps84
  go_wp2
  go_ret
  exact ⟨rfl, rfl⟩
theorem cmpS (a b : ByteArray) (w : World) : Calls Tryd.prog 66 #[.string a, .string b] w fun e w' => e = .returned (.int .i64 (cmpT a b)) ∧ w = w' := by
  have h := box (cmpS84 a b)
  go_enter Tryd.func66, Tryd.ntmps66
  go_wp2_with (go_at_call 84; refine (h.out _).mono ?_; rintro e w1 ⟨rfl, rfl⟩)
  go_ret
  exact ⟨rfl, rfl⟩
theorem or_any (a : Option Addr) (c : Nat) (x0 x1 x2 x3 : Int) (A : Int) (w : World) (b off : Nat) (ha : a = some ⟨b, off, none⟩) (h0 : w.cell? ⟨b, off, none⟩ = some (.int .i64 x0)) (h1 : w.cell? ⟨b, off + 1, none⟩ = some (.int .i64 x1)) (h2 : w.cell? ⟨b, off + 2, none⟩ = some (.int .i64 x2)) (h3 : w.cell? ⟨b, off + 3, none⟩ = some (.int .i64 x3))
    (HA : Box (A = if x0 ≠ 0 then x0 else if x1 ≠ 0 then x1 else if x2 ≠ 0 then x2 else x3)) :
    Calls Tryd.prog 63 #[.slice a 4 c] w fun e w' => e = .returned (.int .i64 A) ∧ w = w' := by
  subst ha
  have H1 := box h1
  have H2 := box h2
  have H3 := box h3
  have H0 := box h0
  clear h0 h1 h2 h3
  go_enter Tryd.func63, Tryd.ntmps63
  go_wp2_with fail
  go_loop [8] (fun i => ∃ k : Nat, i = .int .i64 k ∧ k ≤ 4 ∧ Box ((0 < k → x0 = 0) ∧ (1 < k → x1 = 0) ∧ (2 < k → x2 = 0) ∧ (3 < k → x3 = 0))) (fun i => 4 - (intOf i).toNat)
  case atStart => exact ⟨0, rfl, by omega, box (by omega)⟩
  case round =>
    obtain ⟨k, rfl, hk, HK⟩ := hrel
    by_cases hlt : k < 4
    · obtain ⟨y, hy, hcell⟩ : ∃ y, Box (y = (if k = 0 then x0 else if k = 1 then x1 else if k = 2 then x2 else x3)) ∧ w.cell? ⟨b, off + k, none⟩ = some (.int .i64 y) := by
        rcases k with _ | _ | _ | _ | k
        · exact ⟨x0, box rfl, H0.out⟩
        · exact ⟨x1, box rfl, H1.out⟩
        · exact ⟨x2, box rfl, H2.out⟩
        · exact ⟨x3, box rfl, H3.out⟩
        · omega
      by_cases h0 : y = 0
      · have t0 : (y != 0) = false := by simp [h0]
        have t1 : (y == 0) = true := by simp [h0]
        have HY := box h0
        clear h0
        go_wp2_with fail
        refine ⟨⟨k + 1, by go_num, by omega, box ?_⟩, by simp only [intOf]; omega⟩
        have e := HK.out
        have e1 := hy.out
        have e2 := HY.out
        rcases k with _ | _ | _ | _ | k <;> simp at e1 e <;> omega
      · have t0 : (y != 0) = true := by simp [h0]
        have t1 : (y == 0) = false := by simp [h0]
        have HY := box h0
        clear h0
        go_wp2_with fail
        go_ret
        refine ⟨?_, rfl⟩
        have e := HK.out
        have e1 := hy.out
        have e2 := HY.out
        have e3 := HA.out
        have : y = A := by
          rcases k with _ | _ | _ | _ | k
          · simp at e1; subst e1; rw [e3, if_pos e2]
          · simp at e1 e; subst e1; rw [e3, if_neg (by omega), if_pos e2]
          · simp at e1 e; subst e1; rw [e3, if_neg (by omega), if_neg (by omega), if_pos e2]
          · simp at e1 e; subst e1; rw [e3, if_neg (by omega), if_neg (by omega), if_neg (by omega)]
          · omega
        rw [← this]; rfl
    · go_wp2_with fail
      go_ret
      refine ⟨?_, rfl⟩
      have e := HK.out
      have e3 := HA.out
      have : A = 0 := by rw [e3, if_neg (by omega), if_neg (by omega), if_neg (by omega)]; omega
      rw [this]; rfl
end Go.Proofs.YtafialodjnjihaaDoor
