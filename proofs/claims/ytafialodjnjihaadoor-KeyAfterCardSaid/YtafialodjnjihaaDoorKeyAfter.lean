/- KeyAfter: what After tells is above all texts that begin so, and no lesser one is. The walk of the law. Conditions: the texts are at most 2^47 bytes long; utf8's two tables read as the program lays them; MaxLen's cell holds a number. -/
import Derived.Test.YtafialodjnjihaaDoorAlive06
import Derived.Test.YtafialodjnjihaaDoorAfterLaw
namespace Go.Proofs.YtafialodjnjihaaDoor
open Go Go.RowKit Go.BigFrame
set_option maxRecDepth 100000
set_option linter.unusedVariables false

theorem less_of {a b : ByteArray} {v : Bool} (h : Kl.tlt a.data.toList b.data.toList = v) : Op.bytesLess a.toList b.toList = v := by rw [less_tlt, tlist, tlist]; exact h
theorem eq_data {a b : ByteArray} : (a.toList == b.toList) = true ↔ a.data.toList = b.data.toList := by rw [tlist, tlist, beq_iff_eq]
theorem eq_data_no {a b : ByteArray} : (a.toList == b.toList) = false ↔ a.data.toList ≠ b.data.toList := by rw [tlist, tlist, beq_eq_false_iff_ne]
theorem app_data (a b : ByteArray) : (a ++ b).data.toList = a.data.toList ++ b.data.toList := by simp
theorem begins_of {s t : ByteArray} (h1 : s.size ≤ t.size) (h2 : (t.extract 0 s.size).data.toList = s.data.toList) : ∃ x, t.data.toList = s.data.toList ++ x := by
  have e : (t.extract 0 s.size).data.toList = t.data.toList.take s.size := by simp
  rw [e] at h2
  exact ⟨t.data.toList.drop s.size, by rw [← h2, List.take_append_drop]⟩
theorem begins_no {s t : ByteArray} (h : ¬ (s.size ≤ t.size ∧ (t.extract 0 s.size).data.toList = s.data.toList)) : ¬ s.data.toList <+: t.data.toList := by
  rintro ⟨x, hx⟩
  apply h
  have e : (t.extract 0 s.size).data.toList = t.data.toList.take s.size := by simp
  have hl : s.data.toList.length = s.size := rfl
  refine ⟨?_, ?_⟩
  · have := congrArg List.length hx
    rw [List.length_append] at this
    have h2 : t.data.toList.length = t.size := rfl
    omega
  · rw [e, ← hx, ← hl, List.take_left]

set_option maxHeartbeats 16000000 in
theorem keyAfter_walk (s : ByteArray) (hs1 : s.size ≤ 140737488355328) (t : ByteArray) (hs2 : t.size ≤ 140737488355328) (more : ByteArray) (hs3 : more.size ≤ 140737488355328) (W : World) (hT : Tabs6 W) :
    Calls Tryd.prog 9 #[.string s, .string t, .string more] W fun e w' => e = .returned (.bool true) ∧ Below W.heap.size W w' := by
  have HT := box hT
  clear hT
  by_cases hbig : (4096 : Int) < (s.size : Int) + (t.size : Int) + (more.size : Int)
  · have CA := box (alive06 W HT.out)
    go_enter Tryd.func9, Tryd.ntmps9
    go_wp2_with fail
    refine CA.out.mono ?_
    rintro e w1 ⟨rfl, hb⟩
    have HB := box hb
    clear hb
    go_wp2_with fail
    go_ret
    exact ⟨rfl, HB.out⟩
  · have CF := box (after_any s W (by omega))
    go_enter Tryd.func9, Tryd.ntmps9
    go_wp2_with fail
    refine CF.out.mono ?_
    rintro e w1 ⟨n, hn, rfl, hb⟩
    have B1 := box hb
    have CA := box (alive06 w1 (HT.out.below hb))
    have TR := box hn
    clear hb hn CF
    cases n with
    | zero =>
      rw [show afterT s 0 = ⟨#[]⟩ from rfl]
      go_wp2_with fail
      go_loop [9] (fun i => ∃ k : Nat, i = .int .i64 k ∧ k ≤ s.size) (fun i => s.size - (intOf i).toNat)
      case atStart => exact ⟨0, rfl, Nat.zero_le _⟩
      case round =>
        obtain ⟨k, rfl, hk⟩ := hrel
        by_cases hlt : k < s.size
        · have hc := trim_zero TR.out k hlt
          have hc2 : s[k].toNat = 255 := by rw [hc]; rfl
          clear hc
          go_wp2_with fail
          go_round
          case rel => exact ⟨k + 1, by go_num, hlt⟩
          case measure => simp [intOf]; omega
        · obtain rfl : k = s.size := by omega
          go_wp2_with fail
          refine CA.out.mono ?_
          rintro e w2 ⟨rfl, hb2⟩
          have B2 := box (B1.out.trans (hb2.mono B1.out.size))
          clear hb2
          go_wp2_with fail
          go_ret
          exact ⟨rfl, B2.out⟩
    | succ m =>
      have PT := box (trim_parted TR.out)
      obtain ⟨a, ha⟩ : ∃ a, afterT s (m + 1) = a := ⟨_, rfl⟩
      rw [ha] at PT ⊢
      have f1 : Op.bytesLess (s ++ more).toList a.toList = true := less_of (by rw [app_data]; exact PT.out.above _)
      clear ha TR
      by_cases hlen : s.size ≤ t.size
      
      · cases hbg : (t.extract 0 s.size).toList == s.toList with
        | true =>
          obtain ⟨x, hx⟩ := begins_of hlen (eq_data.1 hbg)
          have hL : Op.bytesLess t.toList a.toList = true := less_of (by rw [hx]; exact PT.out.above x)
          clear hx
          cases hb1 : Op.bytesLess t.toList s.toList with
          | true =>
            go_wp2_with fail
            refine CA.out.mono ?_
            rintro e w2 ⟨rfl, hb2⟩
            have B2 := box (B1.out.trans (hb2.mono B1.out.size))
            clear hb2
            go_wp2_with fail
            go_ret
            exact ⟨rfl, B2.out⟩
          | false =>
            cases hb2 : t.toList == s.toList with
            | true =>
              go_wp2_with fail
              refine CA.out.mono ?_
              rintro e w2 ⟨rfl, hb2⟩
              have B2 := box (B1.out.trans (hb2.mono B1.out.size))
              clear hb2
              go_wp2_with fail
              go_ret
              exact ⟨rfl, B2.out⟩
            | false =>
              go_wp2_with fail
              refine CA.out.mono ?_
              rintro e w2 ⟨rfl, hb2⟩
              have B2 := box (B1.out.trans (hb2.mono B1.out.size))
              clear hb2
              go_wp2_with fail
              go_ret
              exact ⟨rfl, B2.out⟩
        | false =>
          have NB := box (begins_no (s := s) (t := t) (fun h => eq_data_no.1 hbg h.2))
          cases hL : Op.bytesLess t.toList a.toList with
          | true =>
            cases hb1 : Op.bytesLess t.toList s.toList with
            | true =>
              go_wp2_with fail
              refine CA.out.mono ?_
              rintro e w2 ⟨rfl, hb2⟩
              have B2 := box (B1.out.trans (hb2.mono B1.out.size))
              clear hb2
              go_wp2_with fail
              go_ret
              exact ⟨rfl, B2.out⟩
            | false =>
              cases hb2 : t.toList == s.toList with
              | true =>
                go_wp2_with fail
                refine CA.out.mono ?_
                rintro e w2 ⟨rfl, hb2⟩
                have B2 := box (B1.out.trans (hb2.mono B1.out.size))
                clear hb2
                go_wp2_with fail
                go_ret
                exact ⟨rfl, B2.out⟩
              | false =>
                exfalso
                have h1 : Kl.tlt t.data.toList s.data.toList = false := by rw [← less_tlt, ← tlist, ← tlist]; exact hb1
                have h2 := eq_data_no.1 hb2
                have h3 : Kl.tlt t.data.toList a.data.toList = true := by rw [← less_tlt, ← tlist, ← tlist]; exact hL
                rcases Kl.tlt_tri t.data.toList s.data.toList with h | h | h
                · rw [h1] at h; cases h
                · exact h2 h
                · exact NB.out (PT.out.least h h3)
          | false =>
            cases hb1 : Op.bytesLess t.toList s.toList with
            | true =>
              go_wp2_with fail
              refine CA.out.mono ?_
              rintro e w2 ⟨rfl, hb2⟩
              have B2 := box (B1.out.trans (hb2.mono B1.out.size))
              clear hb2
              go_wp2_with fail
              go_ret
              exact ⟨rfl, B2.out⟩
            | false =>
              cases hb2 : t.toList == s.toList with
              | true =>
                go_wp2_with fail
                refine CA.out.mono ?_
                rintro e w2 ⟨rfl, hb2⟩
                have B2 := box (B1.out.trans (hb2.mono B1.out.size))
                clear hb2
                go_wp2_with fail
                go_ret
                exact ⟨rfl, B2.out⟩
              | false =>
                go_wp2_with fail
                refine CA.out.mono ?_
                rintro e w2 ⟨rfl, hb2⟩
                have B2 := box (B1.out.trans (hb2.mono B1.out.size))
                clear hb2
                go_wp2_with fail
                go_ret
                exact ⟨rfl, B2.out⟩
      · have NB := box (begins_no (s := s) (t := t) (fun h => hlen h.1))
        have hlenI : ¬ (s.size : Int) ≤ (t.size : Int) := by omega
        cases hL : Op.bytesLess t.toList a.toList with
        | true =>
          cases hb1 : Op.bytesLess t.toList s.toList with
          | true =>
            go_wp2_with fail
            refine CA.out.mono ?_
            rintro e w2 ⟨rfl, hb2⟩
            have B2 := box (B1.out.trans (hb2.mono B1.out.size))
            clear hb2
            go_wp2_with fail
            go_ret
            exact ⟨rfl, B2.out⟩
          | false =>
            cases hb2 : t.toList == s.toList with
            | true =>
              go_wp2_with fail
              refine CA.out.mono ?_
              rintro e w2 ⟨rfl, hb2⟩
              have B2 := box (B1.out.trans (hb2.mono B1.out.size))
              clear hb2
              go_wp2_with fail
              go_ret
              exact ⟨rfl, B2.out⟩
            | false =>
              exfalso
              have h1 : Kl.tlt t.data.toList s.data.toList = false := by rw [← less_tlt, ← tlist, ← tlist]; exact hb1
              have h2 := eq_data_no.1 hb2
              have h3 : Kl.tlt t.data.toList a.data.toList = true := by rw [← less_tlt, ← tlist, ← tlist]; exact hL
              rcases Kl.tlt_tri t.data.toList s.data.toList with h | h | h
              · rw [h1] at h; cases h
              · exact h2 h
              · exact NB.out (PT.out.least h h3)
        | false =>
          cases hb1 : Op.bytesLess t.toList s.toList with
          | true =>
            go_wp2_with fail
            refine CA.out.mono ?_
            rintro e w2 ⟨rfl, hb2⟩
            have B2 := box (B1.out.trans (hb2.mono B1.out.size))
            clear hb2
            go_wp2_with fail
            go_ret
            exact ⟨rfl, B2.out⟩
          | false =>
            cases hb2 : t.toList == s.toList with
            | true =>
              go_wp2_with fail
              refine CA.out.mono ?_
              rintro e w2 ⟨rfl, hb2⟩
              have B2 := box (B1.out.trans (hb2.mono B1.out.size))
              clear hb2
              go_wp2_with fail
              go_ret
              exact ⟨rfl, B2.out⟩
            | false =>
              go_wp2_with fail
              refine CA.out.mono ?_
              rintro e w2 ⟨rfl, hb2⟩
              have B2 := box (B1.out.trans (hb2.mono B1.out.size))
              clear hb2
              go_wp2_with fail
              go_ret
              exact ⟨rfl, B2.out⟩
end Go.Proofs.YtafialodjnjihaaDoor
