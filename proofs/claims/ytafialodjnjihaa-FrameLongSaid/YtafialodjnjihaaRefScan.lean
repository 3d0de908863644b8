/- The reference reads frames: where it stops, with what. No condition. -/
import Derived.Test.YtafialodjnjihaaScan
import Derived.Test.YtafialodjnjihaaLater
import Derived.Test.YtafialodjnjihaaRow
namespace Go.Proofs.Ytafialodjnjihaa
open Go Go.RowKit Go.BigFrame
set_option maxRecDepth 100000
set_option linter.unusedVariables false

theorem text_eq {a b : ByteArray} (h : a = b) : (a.toList == b.toList) = true := by rw [h]; exact beq_self_eq_true _
theorem text_ne {a b : ByteArray} (h : ¬ a = b) : (a.toList == b.toList) = false := by
  rw [beq_eq_false_iff_ne]
  intro e
  rw [Go.ByteArray.toList_eq, Go.ByteArray.toList_eq] at e
  exact h (ByteArray.ext (Array.toList_inj.1 e))
theorem info9 : (Try.prog.info? 9).map (fun i => (i.zero, i.size, i.bytes)) = some (some (.string ⟨#[]⟩), 1, 16) := by kernel_rfl
theorem some9 : ∃ i, Try.prog.info? 9 = some i ∧ i.zero = some (.string ⟨#[]⟩) ∧ i.size = 1 ∧ i.bytes = 16 := by
  have h := info9
  cases hi : Try.prog.info? 9 with
  | none => rw [hi] at h; cases h
  | some i => rw [hi] at h; simp at h; exact ⟨i, rfl, h.1, h.2.1, h.2.2⟩
def texts (l : List ByteArray) : List Value := l.map .string
def ScanSays (b : ByteArray) (w : World) (e : Ending) (w' : World) : Prop :=
  ∃ v l p er, Stops b l p er ∧ e = .returned (.tuple #[v, .int .i64 (p : Nat), .int .i64 (er : Nat)]) ∧ w'.ownsRow w.heap.size 9 1 v l.length (texts l) ∧ Below w.heap.size w w'

/-- What the reference looks at, each under a name. -/
theorem looks (R : ByteArray) (h8 : ¬ R.size < 8) (hR : R.size ≤ 1000000000) : ∃ N S4 N4 : Nat,
    Box (∀ W, Calls Try.prog 44 #[.string (R.extract 0 4)] W fun e w' => e = .returned (.tuple #[.int .u64 (N : Nat), .int .i64 0]) ∧ W = w') ∧
    Box (∀ W, Calls Try.prog 51 #[.string (R.extract 0 4)] W fun e w' => e = .returned (.int .u32 (S4 : Nat)) ∧ W = w') ∧
    Box (∀ W, Calls Try.prog 74 #[.int .u32 S4] W fun e w' => e = .returned (.string (four S4)) ∧ Below W.heap.size W w') ∧
    N < 4294967296 ∧
    (S4 ≠ N4 → (((four S4).toList == (R.extract 4 8).toList) = false ∧ Box (nxt R = (⟨#[]⟩, 71)))) ∧
    (S4 = N4 → ((four S4).toList == (R.extract 4 8).toList) = true) ∧
    (S4 = N4 → 4194304 < N → Box (nxt R = (⟨#[]⟩, 71))) ∧
    (S4 = N4 → ¬ 4194304 < N → R.size < 12 + N → Box (nxt R = (⟨#[]⟩, 70))) ∧
    (S4 = N4 → ¬ 4194304 < N → ¬ R.size < 12 + N → ∃ S5 N5 : Nat,
      Box (∀ W, Calls Try.prog 51 #[.string (R.extract 12 (12 + N))] W fun e w' => e = .returned (.int .u32 (S5 : Nat)) ∧ W = w') ∧
      Box (∀ W, Calls Try.prog 74 #[.int .u32 S5] W fun e w' => e = .returned (.string (four S5)) ∧ Below W.heap.size W w') ∧
      Box ((R.extract 12 (12 + N)).size = N) ∧
      (S5 ≠ N5 → (((four S5).toList == (R.extract 8 12).toList) = false ∧ Box (nxt R = (⟨#[]⟩, 71)))) ∧
      (S5 = N5 → (((four S5).toList == (R.extract 8 12).toList) = true ∧ Box (nxt R = (R.extract 12 (12 + N), 0))))) := by
  have s1 : (R.extract 0 4).size = 4 := by simp [ByteArray.size_extract]; omega
  have s2 : (R.extract 4 8).size = 4 := by simp [ByteArray.size_extract]; omega
  refine ⟨num (R.extract 0 4), sumB (R.extract 0 4), num (R.extract 4 8), box (fun W => refget_ok (R.extract 0 4) W (by omega) (by omega)), box (fun W => refsum_any (R.extract 0 4) W (by omega)), box (fun W => rput4 _ W (sumB_lt _)), num_lt _ s1, ?_, ?_, ?_, ?_, ?_⟩
  · intro h
    exact ⟨text_ne (fun e => h ((four_eq _ _ (sumB_lt _) s2).1 e)), box (by unfold nxt; rw [if_neg h8, if_pos (.inl h)])⟩
  · intro h
    exact text_eq ((four_eq _ _ (sumB_lt _) s2).2 h)
  · intro h hl
    exact box (by unfold nxt; rw [if_neg h8, if_pos (.inr hl)])
  · intro h hl ht
    have hn : ¬ (sumB (R.extract 0 4) ≠ num (R.extract 4 8) ∨ 4194304 < num (R.extract 0 4)) := fun h1 => h1.elim (fun h2 => h2 h) hl
    exact box (by unfold nxt; rw [if_neg h8, if_neg hn, if_pos ht])
  · intro h hl ht
    have hn : ¬ (sumB (R.extract 0 4) ≠ num (R.extract 4 8) ∨ 4194304 < num (R.extract 0 4)) := fun h1 => h1.elim (fun h2 => h2 h) hl
    have s3 : (R.extract 8 12).size = 4 := by simp [ByteArray.size_extract]; omega
    refine ⟨sumB (R.extract 12 (12 + num (R.extract 0 4))), num (R.extract 8 12), box (fun W => refsum_any _ W (by simp [ByteArray.size_extract]; omega)), box (fun W => rput4 _ W (sumB_lt _)), box (by simp [ByteArray.size_extract]; omega), ?_, ?_⟩
    · intro hc
      exact ⟨text_ne (fun e => hc ((four_eq _ _ (sumB_lt _) s3).1 e)), box (by unfold nxt; rw [if_neg h8, if_neg hn, if_neg ht, if_pos hc])⟩
    · intro hc
      exact ⟨text_eq ((four_eq _ _ (sumB_lt _) s3).2 hc), box (by unfold nxt; rw [if_neg h8, if_neg hn, if_neg ht, if_neg (fun h1 => h1 hc)])⟩

theorem wraps64 (x : Int) (h0 : -9223372036854775808 ≤ x) (h1 : x < 9223372036854775808) : wrap64 x = x := IntWalk.wrap64_in _ (by omega)
theorem wrapsK (x : Int) (h0 : -9223372036854775808 ≤ x) (h1 : x < 9223372036854775808) : IntKind.i64.wrap x = x := by rw [IntKind.wrap_i64]; omega
theorem scan_less (b R : ByteArray) (p N : Nat) (h : p + 12 + N ≤ b.size) : b.size - (intOf (Value.int .i64 ((p + 12 + N : Nat) : Int))).toNat < b.size - (intOf (Value.int .i64 (p : Int))).toNat := by
  simp only [intOf]; omega
/-- The sums of a scan's round. -/
theorem sums (N p : Nat) (hN : N < 4294967296) (hp : p ≤ 1000000000) :
    Box (wrap64 (N : Int) = (N : Int)) ∧ Box (IntKind.i64.wrap ((12 : Int) + (N : Int)) = 12 + (N : Int)) ∧ Box (wrap64 ((12 : Int) + (N : Int)) = 12 + (N : Int)) ∧ Box (wrap64 ((p : Int) + 12) = (p : Int) + 12) ∧ Box (wrap64 ((p : Int) + 12 + (N : Int)) = ((p + 12 + N : Nat) : Int)) ∧ Box (((12 : Int) + (N : Int)).toNat = 12 + N) :=
  ⟨box (wraps64 _ (by omega) (by omega)), box (wrapsK _ (by omega) (by omega)), box (wraps64 _ (by omega) (by omega)), box (wraps64 _ (by omega) (by omega)), box (by rw [wraps64 _ (by omega) (by omega)]; omega), box (by omega)⟩

set_option maxHeartbeats 8000000 in
theorem refScan_any (b : ByteArray) (w : World) (hb : b.size ≤ 1000000000) :
    Calls Try.prog 60 #[.string b] w (ScanSays b w) := by
  have HB := box hb
  clear hb
  go_enter Try.func60, Try.ntmps60
  go_wp2_with fail
  go_loopw [5, 6] (fun v c wr => ∃ (k p : Nat) (l : List ByteArray), st b k = some (p, l) ∧ c = .int .i64 p ∧ wr.ownsRow w.heap.size 9 1 v l.length (texts l) ∧ Below w.heap.size w wr) (fun _ c _ => b.size - (intOf c).toNat)
  case atStart => exact ⟨0, 0, [], rfl, rfl, World.ownsRow_nil _ _ _ _, Below.refl _ _⟩
  case round =>
    obtain ⟨k, p, l, hst, rfl, hown, hbel⟩ := hrel
    have ST := box hst
    have O := box hown
    have B := box hbel
    have hpb := (st_le hst).1
    have hlk := (st_le hst).2
    clear hst hown hbel
    by_cases hp : p < b.size
    · have hz := rest_size b p
      have SS := box (st_step ST.out hp)
      have hd0 : decide (p < b.size) = true := by simpa using hp
      obtain ⟨R, hR⟩ : ∃ R, rest b p = R := ⟨_, rfl⟩
      have hRe : b.extract p b.size = R := hR
      have RR := box hR
      rw [hR] at hz SS
      clear hR
      have HZ := box hz
      by_cases h8 : R.size < 8
      · have e8 : (R.size : Int) < 8 := by omega
        have he : nxt R = (⟨#[]⟩, 70) := by unfold nxt; rw [if_pos h8]
        have HE := box he
        clear hz h8 he
        go_wp2_with fail
        go_ret3
        exact ⟨_, l, p, 70, ⟨k, ST.out, .inr ⟨hp, by rw [RR.out, HE.out], by decide⟩⟩, rfl, O.out, B.out⟩
      · obtain ⟨N, S4, N4, C1, C2, C3, hN, f1, f2, f3, f4, f5⟩ := looks R h8 (by have := HB.out; omega)
        obtain ⟨W64, T18, T19, T20, T21, T15⟩ := sums N p hN (by have := HB.out; omega)
        have OW : Box (∀ x : Later wr, x.world.ownsRow w.heap.size 9 1 u5 l.length (texts l)) := box (fun x => own_kept O.out (Only.below x.below none) (by cases u5.ownBlock with | none => exact .inl rfl | some k => exact .inr (by simp)))
        have g4 : (4 : Int) ≤ (R.size : Int) := by omega
        have g8 : (8 : Int) ≤ (R.size : Int) := by omega
        have e8 : ¬ (R.size : Int) < 8 := by omega
        by_cases hb1 : S4 = N4
        · have t1 := f2 hb1
          by_cases hl : 4194304 < N
          · have HE := f3 hb1 hl
            have t3 : (4194304 : Int) < (N : Int) := by omega
            clear f1 f2 f3 f4 f5 hb1 h8 hz
            have w64 := W64.out
            go_wp2_with fail
            refine (C1.out _).mono ?_
            rintro e w1 ⟨rfl, rfl⟩
            go_wp2_with fail
            refine wp_region_later wr (by kernel_rfl) (by kernel_rfl) (Below.refl _ _) ?_
            repeat (go_big_quiet_step (first | (go_at_call 51; exact Calls.laterSame (C2.out _)) | (go_at_call 74; exact Calls.later (C3.out _))))
            refine wpQuiet_nil ?_
            rintro _ ⟨nq, rfl⟩
            have O2 := box (OW.out nq)
            go_wp2_with fail
            go_ret3
            clear w64
            exact ⟨_, l, p, 71, ⟨k, ST.out, .inr ⟨hp, by rw [RR.out, HE.out], by decide⟩⟩, rfl, O2.out, Below.grown B.out (Only.below nq.below none) B.out.size (by simp)⟩
          · have t3 : ¬ (4194304 : Int) < (N : Int) := by omega
            by_cases ht : R.size < 12 + N
            · have HE := f4 hb1 hl ht
              have t4 : (R.size : Int) < 12 + (N : Int) := by omega
              clear f1 f2 f3 f4 f5 hb1 h8 hz
              have w64 := W64.out
              go_wp2_with fail
              refine (C1.out _).mono ?_
              rintro e w1 ⟨rfl, rfl⟩
              go_wp2_with fail
              refine wp_region_later wr (by kernel_rfl) (by kernel_rfl) (Below.refl _ _) ?_
              repeat (go_big_quiet_step (first | (go_at_call 51; exact Calls.laterSame (C2.out _)) | (go_at_call 74; exact Calls.later (C3.out _))))
              refine wpQuiet_nil ?_
              rintro _ ⟨nq, rfl⟩
              have O2 := box (OW.out nq)
              go_wp2_with fail
              go_ret3
              clear w64
              exact ⟨_, l, p, 70, ⟨k, ST.out, .inr ⟨hp, by rw [RR.out, HE.out], by decide⟩⟩, rfl, O2.out, Below.grown B.out (Only.below nq.below none) B.out.size (by simp)⟩
            · obtain ⟨S5, N5, C4, C5, SZ, f6, f7⟩ := f5 hb1 hl ht
              have t4 : ¬ (R.size : Int) < 12 + (N : Int) := by omega
              have t12 : (12 : Int) + (N : Int) ≤ (R.size : Int) := by omega
              have t13 : (0 : Int) ≤ 12 + (N : Int) := by omega
              have t14 : (12 : Int) ≤ 12 + (N : Int) := by omega
              have t16 : (12 : Int) ≤ (R.size : Int) := by omega
              by_cases hc : S5 = N5
              · obtain ⟨y1, HE⟩ := f7 hc
                have hll : l.length ≤ 1000000000 := by have := HB.out; omega
                have HP := box (show p + 12 + N ≤ b.size ∧ l.length = k from ⟨by clear f1 f2 f3 f4 f5 f6 f7; omega, hlk.2⟩)
                clear f1 f2 f3 f4 f5 f6 f7 hb1 h8 hz hc hlk hl ht
                have w64 := W64.out
                have t18 := T18.out
                have t19 := T19.out
                have t15 := T15.out
                obtain ⟨z9, hi, hz0, hz1, hz2⟩ := some9
                go_wp2_with fail
                refine (C1.out _).mono ?_
                rintro e w1 ⟨rfl, rfl⟩
                go_wp2_with fail
                refine wp_region_later wr (by kernel_rfl) (by kernel_rfl) (Below.refl _ _) ?_
                repeat (go_big_quiet_step (first | (go_at_call 51; exact Calls.laterSame (C2.out _)) | (go_at_call 74; exact Calls.later (C3.out _))))
                refine wpQuiet_nil ?_
                rintro _ ⟨nq, rfl⟩
                have O2 := box (OW.out nq)
                go_wp2_with fail
                refine wp_region_later nq.world (by kernel_rfl) (by kernel_rfl) (Below.refl _ _) ?_
                repeat (go_big_quiet_step (first | (go_at_call 51; exact Calls.laterSame (C4.out _)) | (go_at_call 74; exact Calls.later (C5.out _))))
                refine wpQuiet_nil ?_
                rintro _ ⟨nq2, rfl⟩
                have O3 := box (own_kept O2.out (Only.below nq2.below none) (by cases u5.ownBlock with | none => exact .inl rfl | some k => exact .inr (by simp)))
                have B3 := box (Below.grown (Below.grown B.out (Only.below nq.below none) B.out.size (by simp)) (Only.below nq2.below none) (Nat.le_trans B.out.size nq.below.size) (by simp))
                have hsz3 : w.heap.size ≤ nq2.world.heap.size := B3.out.size
                go_wp2_with (at_builtin; refine append_one nq2.world rfl (.tmp 63) (.tmp 65) 23 rfl w.heap.size 9 z9 (.string ⟨#[]⟩) 1 16 Try.underlying23 hi hz0 hz1 hz2 rfl (by decide) _ _ _ rfl O3.out [.string (R.extract 12 (12 + N))] rfl rfl ?c2 ?c3 ?c4 hsz3 ?_ rfl)
                case c2 => first | rfl | exact ⟨rfl⟩ | (intro u hu; simp at hu; subst hu; rfl)
                case c3 => unfold maxLen; omega
                case c4 => omega
                intro v1 w5 hown1 hbel1 hgrown
                have O5 := box hown1
                have B5 := box (Below.trans B3.out hbel1)
                clear hown1 hbel1 hgrown
                go_wp2_with fail
                clear w64 t18 t19 t15
                have e21 : Value.int .i64 (wrap64 (wrap64 (↑p + 12) + ↑N)) = Value.int .i64 ((p + 12 + N : Nat) : Int) := by rw [T20.out, T21.out]
                have hst : st b (k + 1) = some (p + 12 + N, l ++ [R.extract 12 (12 + N)]) := by
                  have := SS.out (by rw [HE.out]); rw [HE.out] at this; dsimp only at this; rw [SZ.out] at this; exact this
                have hms := scan_less b R p N HP.out.1
                have how : w5.ownsRow w.heap.size 9 1 v1 (l ++ [R.extract 12 (12 + N)]).length (texts (l ++ [R.extract 12 (12 + N)])) := by
                  have := O5.out
                  rw [List.length_append]; unfold texts at *; rw [List.map_append]; exact this
                rw [e21]
                exact ⟨⟨k + 1, p + 12 + N, l ++ [R.extract 12 (12 + N)], hst, rfl, how, B5.out⟩, hms⟩
              · obtain ⟨y1, HE⟩ := f6 hc
                clear f1 f2 f3 f4 f5 f6 f7 hb1 h8 hz hc hl ht
                have w64 := W64.out
                have t18 := T18.out
                have t19 := T19.out
                have t15 := T15.out
                go_wp2_with fail
                refine (C1.out _).mono ?_
                rintro e w1 ⟨rfl, rfl⟩
                go_wp2_with fail
                refine wp_region_later wr (by kernel_rfl) (by kernel_rfl) (Below.refl _ _) ?_
                repeat (go_big_quiet_step (first | (go_at_call 51; exact Calls.laterSame (C2.out _)) | (go_at_call 74; exact Calls.later (C3.out _))))
                refine wpQuiet_nil ?_
                rintro _ ⟨nq, rfl⟩
                have O2 := box (OW.out nq)
                go_wp2_with fail
                refine wp_region_later nq.world (by kernel_rfl) (by kernel_rfl) (Below.refl _ _) ?_
                repeat (go_big_quiet_step (first | (go_at_call 51; exact Calls.laterSame (C4.out _)) | (go_at_call 74; exact Calls.later (C5.out _))))
                refine wpQuiet_nil ?_
                rintro _ ⟨nq2, rfl⟩
                have O3 := box (own_kept O2.out (Only.below nq2.below none) (by cases u5.ownBlock with | none => exact .inl rfl | some k => exact .inr (by simp)))
                have B3 := box (Below.grown (Below.grown B.out (Only.below nq.below none) B.out.size (by simp)) (Only.below nq2.below none) (Nat.le_trans B.out.size nq.below.size) (by simp))
                go_wp2_with fail
                go_ret3
                clear w64 t18 t19 t15
                exact ⟨_, l, p, 71, ⟨k, ST.out, .inr ⟨hp, by rw [RR.out, HE.out], by decide⟩⟩, rfl, O3.out, B3.out⟩
        · obtain ⟨t1, HE⟩ := f1 hb1
          clear f1 f2 f3 f4 f5 hb1 h8 hz
          go_wp2_with fail
          refine (C1.out _).mono ?_
          rintro e w1 ⟨rfl, rfl⟩
          go_wp2_with fail
          refine wp_region_later wr (by kernel_rfl) (by kernel_rfl) (Below.refl _ _) ?_
          repeat (go_big_quiet_step (first | (go_at_call 51; exact Calls.laterSame (C2.out _)) | (go_at_call 74; exact Calls.later (C3.out _))))
          refine wpQuiet_nil ?_
          rintro _ ⟨nq, rfl⟩
          have O2 := box (OW.out nq)
          go_wp2_with fail
          go_ret3
          exact ⟨_, l, p, 71, ⟨k, ST.out, .inr ⟨hp, by rw [RR.out, HE.out], by decide⟩⟩, rfl, O2.out, Below.grown B.out (Only.below nq.below none) B.out.size (by simp)⟩
    · have hpe : p = b.size := by omega
      have hd0 : decide (p < b.size) = false := by simpa using hp
      go_wp2_with fail
      go_ret3
      exact ⟨_, l, p, 0, ⟨k, ST.out, .inl ⟨hpe, rfl⟩⟩, rfl, O.out, B.out⟩
end Go.Proofs.Ytafialodjnjihaa
