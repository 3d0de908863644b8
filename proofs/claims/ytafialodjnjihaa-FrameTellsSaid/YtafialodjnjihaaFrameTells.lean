/- FrameTells, the walk: which frames any texts have, and which texts any bytes are, up to where. No condition. -/
import Derived.Test.YtafialodjnjihaaFrameTorn
import Derived.Laws.AppendOwnNone
namespace Go.Proofs.Ytafialodjnjihaa
open Go Go.RowKit Go.BigFrame
set_option maxRecDepth 100000
set_option linter.unusedVariables false

/-- append of a slice of texts that came in, to nil. -/
theorem append_texts {w : World} {ops : Array Oper} {rest : List Oper} {o : Oper} {act : Act} {Q : Exit → Act → World → Prop} (hgd : o.guard = none) (x : Operand)
    (ho : o.op = .call { callee := .builtin .append, args := #[.const (.slice none 0 0), x], argTypes := #[23, 23] })
    (a : Option Addr) (n c : Nat) (ss : List ByteArray) (hx : act.eval x = .slice a n c) (base : Nat) (hr : Strs3 w a n ss) (hnil : a = none → c = 0) (hn : n ≤ 200) (hbase : base ≤ w.heap.size)
    (h : ∀ v' w', w'.ownsRow base 9 1 v' ss.length (texts ss) → w.grownBy w' none → wpList Try.prog ops Q rest (act.put o.dst v') w') : wpList Try.prog ops Q (o :: rest) act w := by
  obtain ⟨z9, hi, hz0, hz1, hz2⟩ := some9
  cases a with
  | none =>
    have h0 : n = 0 := by
      rcases Nat.eq_zero_or_pos n with h | h
      · exact h
      · obtain ⟨_, _, h1, _⟩ := hr.2.2 h; cases h1
    subst h0
    obtain rfl := hnil rfl
    have hrs : ss = [] := List.length_eq_zero_iff.1 hr.1
    subst hrs
    exact wpList_append_own_none hgd _ x 23 ho base 9 z9 1 Try.underlying23 hi _ 0 [] rfl (World.ownsRow_nil _ _ _ _) hx (h _ _ (World.ownsRow_nil _ _ _ _) (World.grownBy.refl _ _))
  | some ad =>
    refine wpList_append_own w hgd _ x 23 ho base 9 z9 (.string ⟨#[]⟩) 1 16 Try.underlying23 hi hz0 hz1 hz2 rfl (by decide) _ 0 [] rfl (World.ownsRow_nil _ _ _ _) ad n c (texts ss) hx
      (by simp [texts, hr.1]) ?_ (fun u hu => by obtain ⟨s, _, rfl⟩ := List.mem_map.1 hu; rfl) (by unfold maxLen; omega) (by omega) hbase ?_
    · rcases Nat.eq_zero_or_pos n with h0 | h0
      · subst h0
        have hrs : ss = [] := List.length_eq_zero_iff.1 hr.1
        subst hrs
        intro j u hu; simp [texts] at hu
      · obtain ⟨b, off, e, hb, hc⟩ := hr.2.2 h0
        cases e
        intro j u hu
        have hj : j < n := by
          have := (List.getElem?_eq_some_iff.1 hu).1
          simp [texts, hr.1] at this; exact this
        rw [add_at, hc j hj, ← hu]
        have hj' : j < ss.length := by rw [hr.1]; exact hj
        simp [texts, hj']
    · intro v' w' h1 h2 _
      rw [Nat.zero_add, List.nil_append] at h1
      rw [← hr.1] at h1
      exact h v' w' h1 h2

theorem text_refl (F : ByteArray) : (F.toList == F.toList) = true := beq_self_eq_true _

set_option maxHeartbeats 8000000 in
theorem frameTells_walk {w : World} (a : Option Addr) (n c : Nat) (ss : List ByteArray) (hr : Strs w a n ss ∧ (∀ s ∈ ss, s.size ≤ 140737488355328) ∧ n ≤ c ∧ c ≤ maxLen ∧ (a = none → c = 0)) (b : ByteArray) (bw : b.size ≤ maxLen) :
    Calls Try.prog 13 #[.slice a n c, .string b] w fun e w' => e = .returned (.bool true) ∧ Below w.heap.size w w' := by
  obtain ⟨hr0, hm, hnc, hcm, hcn⟩ := hr
  have R := box (strs3_of hr0)
  have NIL := box hcn
  have L := box (large7_any a n c ss w hm (strs3_of hr0))
  clear hr0 hm hcn
  by_cases hb : (32768 : Int) < (b.size : Int)
  · go_enter Try.func13, Try.ntmps13
    go_wp2_with fail
    refine L.out.mono ?_
    rintro e w1 ⟨B, rfl, hB, rfl⟩
    clear hB
    cases B with
    | true =>
      go_wp2_with fail
      refine (alive07 _).mono ?_
      rintro e w2 ⟨rfl, hb2⟩
      have HB := box hb2
      clear hb2
      go_wp2_with fail
      go_ret
      exact ⟨rfl, HB.out⟩
    | false =>
      go_wp2_with fail
      refine (alive07 _).mono ?_
      rintro e w2 ⟨rfl, hb2⟩
      have HB := box hb2
      clear hb2
      go_wp2_with fail
      go_ret
      exact ⟨rfl, HB.out⟩
  · have SC := box (fun W => frameScan_any b W (by omega))
    have RC := box (fun W => refScan_any b W (by omega))
    go_enter Try.func13, Try.ntmps13
    go_wp2_with fail
    refine L.out.mono ?_
    rintro e w1 ⟨B, rfl, hB, rfl⟩
    cases B with
    | true =>
      go_wp2_with fail
      refine (alive07 _).mono ?_
      rintro e w2 ⟨rfl, hb2⟩
      have HB := box hb2
      clear hb2
      go_wp2_with fail
      go_ret
      exact ⟨rfl, HB.out⟩
    | false =>
      obtain ⟨hn, ht⟩ := hB rfl
      have HT := box ht
      have C1 := box (fun (v : Option Addr) (c' : Nat) W (h : Strs3 W v n ss) => frameAll_any v n c' ss W h hn ht)
      have C2 := box (fun W (h : Strs3 W a n ss) => refAll_any a n c ss W h hn ht)
      have C5 := box (fun (v : Option Addr) (c' : Nat) W (h : Strs3 W v n ss) (h2 : Strs3 W a n ss) => sameTexts_any v a n c' c ss W h h2)
      obtain ⟨F, hF⟩ : ∃ F, frames ss = F := ⟨_, rfl⟩
      rw [hF] at C1 C2
      have tF := text_refl F
      clear hF hB ht
      go_wp2_with (at_builtin; refine append_texts rfl (.tmp 29) rfl a n c ss rfl w.heap.size R.out NIL.out hn (Nat.le_refl _) ?_)
      intro v1 w2 hown hg
      have hl : ss.length = n := R.out.1
      obtain ⟨a1, c1, rfl, hr1⟩ := strs3_own hown
      rw [hl] at hr1 ⊢
      have B2 := box (Below.grown (Below.refl w.heap.size w) hg (Nat.le_refl _) (by simp))
      have R2 := box hr1
      clear hown hg hr1 hl
      go_wp2_with fail
      refine (C1.out _ _ _ R2.out).mono ?_
      rintro e w3 ⟨rfl, hb3⟩
      have B3 := box (Below.grown B2.out (Only.below hb3 none) B2.out.size (by simp))
      have R3 := box (strs3_below R2.out hb3)
      have A3 := box (strs3_below R.out B3.out)
      clear hb3
      go_wp2_with fail
      refine (C2.out _ A3.out).mono ?_
      rintro e w4 ⟨rfl, hb4⟩
      have B4 := box (Below.grown B3.out (Only.below hb4 none) B3.out.size (by simp))
      have R4 := box (strs3_below R3.out hb4)
      have A4 := box (strs3_below R.out B4.out)
      clear hb4
      go_wp2_with fail
      refine (C5.out _ _ _ R4.out A4.out).mono ?_
      rintro e w5 ⟨rfl, q5, rfl⟩
      have B5 := box (below_drewN B4.out q5)
      go_wp2_with fail
      go_loopw [10] (fun i wr => ∃ (k : Nat), i = .int .i64 k ∧ k ≤ n ∧ Below w.heap.size w wr) (fun i _ => n - (intOf i).toNat)
      case atStart => exact ⟨0, rfl, Nat.zero_le _, B5.out⟩
      case round =>
        obtain ⟨k, rfl, hk, hbr⟩ := hrel
        have BR := box hbr
        clear hbr
        by_cases hin : k < n
        · obtain ⟨tb, tf, rfl, htb, htc⟩ := R.out.2.2 (by omega)
          have hcell := (BR.out.cell (by exact htb)).trans (htc k hin)
          have hs := at_le HT.out k (by rw [R.out.1]; exact hin)
          generalize ss.getD k ByteArray.empty = tx at *
          have P1 := box (fun W => framePut_ok tx W (by omega))
          have P2 := box (fun W => refPut_ok tx W (by omega))
          obtain ⟨G, hG⟩ : ∃ G, frame tx = G := ⟨_, rfl⟩
          rw [hG] at P1 P2
          have tG := text_refl G
          clear hG htc
          go_wp2_with fail
          refine (P1.out _).mono ?_
          rintro e w6 ⟨rfl, hb6⟩
          have B6 := box (Below.grown BR.out (Only.below hb6 none) BR.out.size (by simp))
          have hcell6 := (hb6.cell (cell_lt hcell)).trans hcell
          clear hb6
          go_wp2_with fail
          refine (P2.out _).mono ?_
          rintro e w7 ⟨rfl, hb7⟩
          have B7 := box (Below.grown B6.out (Only.below hb7 none) B6.out.size (by simp))
          clear hb7
          go_wp2_with fail
          exact ⟨⟨k + 1, rfl, hin, B7.out⟩, by simp only [intOf]; omega⟩
        · have hd : decide (k < n) = false := by simpa using hin
          go_wp2_with fail
          refine (SC.out _).mono ?_
          rintro e w6 ⟨v6, l6, p6, e6, hs6, rfl, ho6, hb6⟩
          obtain ⟨a6, c6, rfl, hr6⟩ := strs3_own ho6
          have B6 := box (Below.grown BR.out (Only.below hb6 none) BR.out.size (by simp))
          have R6 := box hr6
          have S6 := box hs6
          clear hb6 ho6 hr6 hs6
          go_wp2_with fail
          refine (RC.out _).mono ?_
          rintro e w7 ⟨v7, l7, p7, e7, hs7, rfl, ho7, hb7⟩
          obtain ⟨rfl, rfl, rfl⟩ := S6.out.one hs7
          obtain ⟨a7, c7, rfl, hr7⟩ := strs3_own ho7
          have B7 := box (Below.grown B6.out (Only.below hb7 none) B6.out.size (by simp))
          have R7 := box (strs3_below R6.out hb7)
          have R8 := box hr7
          clear hb7 ho7 hr7 hs7
          go_wp2_with fail
          refine (sameTexts_any _ _ _ _ _ _ _ R7.out R8.out).mono ?_
          rintro e w8 ⟨rfl, q8, rfl⟩
          go_wp2_with fail
          refine (alive07 _).mono ?_
          rintro e w9 ⟨rfl, hb9⟩
          have B9 := box (Below.grown (below_drewN B7.out q8) (Only.below hb9 none) (below_drewN B7.out q8).size (by simp))
          clear hb9
          go_wp2_with fail
          go_ret
          exact ⟨rfl, B9.out⟩
end Go.Proofs.Ytafialodjnjihaa
