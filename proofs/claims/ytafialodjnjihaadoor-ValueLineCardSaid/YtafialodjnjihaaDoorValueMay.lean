/- ValueMay, the walk: which values, and which rows, may be. Condition: utf8's two tables read as the program lays them. -/
import Derived.Test.YtafialodjnjihaaDoorCopy
import Derived.Test.YtafialodjnjihaaDoorAlive04
import Derived.Test.YtafialodjnjihaaDoorLater
import Derived.BigQuiet

namespace Go.Proofs.YtafialodjnjihaaDoor
open Go Go.RowKit Go.BigFrame
set_option maxRecDepth 100000
set_option linter.unusedVariables false

theorem calls_below {P : Program} {f : FuncId} {args : Array Value} {w : World} {v : Value} (h : Calls P f args w fun e w' => e = .returned v ∧ ∃ q, w' = w.drewN q) : Calls P f args w fun e w' => e = .returned v ∧ Below w.heap.size w w' :=
  h.mono fun _ _ ⟨a, q, b⟩ => ⟨a, by rw [b]; exact below_drewN (Below.refl _ _) q⟩

set_option maxHeartbeats 8000000 in
theorem valueMay_walk {w : World} (x : Val) (hx : x.Ok) (a : Option Addr) (n c : Nat) (xs : List Val) (hr : Vals w a n xs ∧ n ≤ c ∧ c ≤ maxLen ∧ (a = none → c = 0)) (hT : Tabs w) :
    Calls Tryd.prog 3 #[x.v, .slice a n c] w fun e w' => e = .returned (.bool true) ∧ Below w.heap.size w w' := by
  obtain ⟨hv, hnc, hcm, hcn⟩ := hr
  have HT := box hT
  have OK := box hx
  have hw1 : Below w.heap.size w (w.alloc (.cells x.cells.toArray 24)) := (Below.refl _ w).alloc (Nat.le_refl _) _
  have V1 := box (vals_below hv hw1)
  have HA := box (hT.below hw1)
  have W1 := box (Whole1.made w 24 x.cells.toArray)
  have L := box (long_any a n c xs _ V1.out)
  have NIL := box hcn
  have C14 := box (fun W hT => check_any x OK.out W validHas hT)
  have C15 := box (fun W hT => may_any x OK.out W validHas hT)
  have HE : Box (x.err = if x.may = true then 0 else 2) := box rfl
  have htx : x.text.size ≤ maxLen := hx.text
  clear hv hw1 hcn hx hT
  obtain ⟨m, hm⟩ : ∃ m, x.may = m := ⟨_, rfl⟩
  obtain ⟨er, her⟩ : ∃ er, x.err = er := ⟨_, rfl⟩
  rw [her] at C14 HE
  rw [hm] at C15 HE
  clear hm her OK
  obtain ⟨kk, ii, rr, tt⟩ := x
  unfold Val.v Val.cells at *
  dsimp only at *
  obtain ⟨R, hR⟩ : ∃ R, rowMay xs = R := ⟨_, rfl⟩
  obtain ⟨re, hre⟩ : ∃ re, rowErr xs = re := ⟨_, rfl⟩
  have HRE : Box (re = if R = true then 0 else 2) := box (by rw [← hre, ← hR]; rfl)
  have C16 := box (fun (a' : Option Addr) c' W (h : Vals W a' n xs) hT => row_any a' n c' xs W h hT)
  have C17 := box (fun W (h : Vals W a n xs) hT => refrow_any a n c xs W h hT)
  rw [hre] at C16
  rw [hR] at C17
  clear hR hre
  go_enter Tryd.func3, Tryd.ntmps3
  go_wp2_with fail
  refine L.out.mono ?_
  rintro e w1 ⟨B, rfl, hB, rfl⟩
  cases B with
  | true =>
    go_wp2_with fail
    refine (alive04 _ HA.out).mono ?_
    rintro e w3 ⟨rfl, hb3⟩
    have B3 := box ((Below.alloc (Below.refl w.heap.size w) (Nat.le_refl _) (.cells #[.int .u8 kk, .int .i64 ii, .int .u64 rr, .string tt] 24)).trans (hb3.mono (by simp)))
    clear hb3
    go_wp2_with fail
    go_ret
    exact ⟨rfl, B3.out⟩
  | false =>
    have hn := hB rfl
    clear hB
    by_cases h16 : (16384 : Int) < (tt.size : Int)
    · go_wp2_with fail
      refine (alive04 _ HA.out).mono ?_
      rintro e w3 ⟨rfl, hb3⟩
      have B3 := box ((Below.alloc (Below.refl w.heap.size w) (Nat.le_refl _) (.cells #[.int .u8 kk, .int .i64 ii, .int .u64 rr, .string tt] 24)).trans (hb3.mono (by simp)))
      clear hb3
      go_wp2_with fail
      go_ret
      exact ⟨rfl, B3.out⟩
    · have CC := box (copy_any a n c xs _ V1.out NIL.out hn)
      go_wp2_with fail
      refine CC.out.mono ?_
      rintro e w2 ⟨a2, c2, rfl, hv2, hb2⟩
      have B2 := box (((Below.refl w.heap.size w).alloc (Nat.le_refl _) (.cells #[.int .u8 kk, .int .i64 ii, .int .u64 rr, .string tt] 24)).trans (hb2.mono (by simp)))
      have V2 := box (vals_below V1.out hb2)
      have O2 := box hv2
      have W2 := box (W1.out.below hb2 (by simp))
      have T2 := box (HT.out.below B2.out)
      clear hb2 hv2
      have D14 := box (fun z : Later w2 => C14.out z.world (T2.out.below z.below))
      have D15 := box (fun z : Later w2 => C15.out z.world (T2.out.below z.below))
      have D16 := box (fun z : Later w2 => C16.out a2 c2 z.world (vals_below O2.out z.below) (T2.out.below z.below))
      have D17 := box (fun z : Later w2 => C17.out z.world (vals_below V2.out z.below) (T2.out.below z.below))
      have D18 := box (fun z : Later w2 => calls_below (refsame_any a2 a n c2 c xs z.world (vals_below O2.out z.below) (vals_below V2.out z.below)))
      have D12 := box (fun z : Later w2 => alive04 z.world (T2.out.below z.below))
      have p0 : ∀ z : Later w2, z.world.cell? ⟨w.heap.size, 0, none⟩ = some (.int .u8 kk) := fun z => (W2.out.below z.below W2.out.lt).cell 0
      have p1 : ∀ z : Later w2, z.world.cell? ⟨w.heap.size, 1, none⟩ = some (.int .i64 ii) := fun z => (W2.out.below z.below W2.out.lt).cell 1
      have p2 : ∀ z : Later w2, z.world.cell? ⟨w.heap.size, 2, none⟩ = some (.int .u64 rr) := fun z => (W2.out.below z.below W2.out.lt).cell 2
      have p3 : ∀ z : Later w2, z.world.cell? ⟨w.heap.size, 3, none⟩ = some (.string tt) := fun z => (W2.out.below z.below W2.out.lt).cell 3
      clear C14 C15 C16 C17 V1 HA W1 L CC
      have he := HE.out
      have hre := HRE.out
      clear HE HRE
      cases m <;> cases R
      all_goals
        first | (obtain rfl : er = 2 := he) | (obtain rfl : er = 0 := he)
        first | (obtain rfl : re = 2 := hre) | (obtain rfl : re = 0 := hre)
        go_wp2_with fail
        refine wp_region_later w2 (by kernel_rfl) (by kernel_rfl) (Below.refl _ _) ?_
        repeat (go_big_quiet_step (first | (go_at_call 14; exact Calls.later (D14.out _)) | (go_at_call 15; exact Calls.later (D15.out _)) | (go_at_call 16; exact Calls.later (D16.out _)) | (go_at_call 17; exact Calls.later (D17.out _)) | (go_at_call 18; exact Calls.later (D18.out _)) | (go_at_call 12; exact Calls.later (D12.out _))))
        refine wpQuiet_nil ?_
        rintro _ ⟨nq, rfl⟩
        go_wp2_with fail
        go_ret
        exact ⟨rfl, Below.grown B2.out (Only.below nq.below none) B2.out.size (by simp)⟩
end Go.Proofs.YtafialodjnjihaaDoor
