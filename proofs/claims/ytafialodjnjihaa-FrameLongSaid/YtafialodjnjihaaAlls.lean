/- The frames of texts: All, the reference's All. No condition. -/
import Derived.Test.YtafialodjnjihaaTexts
namespace Go.Proofs.Ytafialodjnjihaa
open Go Go.RowKit Go.BigFrame
set_option maxRecDepth 100000
set_option linter.unusedVariables false

theorem frames_nil : frames [] = ⟨#[]⟩ := rfl
theorem at_le {ss : List ByteArray} {m : Nat} (h : total ss ≤ m) (i : Nat) (hi : i < ss.length) : (ss.getD i ByteArray.empty).size ≤ m := by
  have h1 := total_take ss i hi
  have h2 := total_mono ss (i + 1)
  omega
theorem frames_le (ss : List ByteArray) (i : Nat) (hn : ss.length ≤ 200) (ht : total ss ≤ 32768) (hi : i ≤ ss.length) : (frames (ss.take i)).size ≤ 35168 := by
  rw [frames_size]
  have := total_mono ss i
  have : (ss.take i).length = i := by simp; omega
  omega
theorem frames_next (ss : List ByteArray) (i : Nat) (hi : i < ss.length) : frames (ss.take (i + 1)) = frames (ss.take i) ++ frame (ss.getD i ByteArray.empty) := by
  rw [take_at ss i hi, frames_snoc]

set_option maxHeartbeats 1000000 in
theorem refAll_any (a : Option Addr) (n c : Nat) (ss : List ByteArray) (w : World) (hr : Strs3 w a n ss) (hn : n ≤ 200) (ht : total ss ≤ 32768) :
    Calls Try.prog 55 #[.slice a n c] w fun e w' => e = .returned (.tuple #[.string (frames ss), .int .i64 0]) ∧ Below w.heap.size w w' := by
  have HR := box hr; clear hr
  have HT := box ht; clear ht
  go_enter Try.func55, Try.ntmps55
  go_wp2_with fail
  go_loopw [4, 5] (fun o c wr => ∃ (i : Nat), o = .string (frames (ss.take i)) ∧ c = .int .i64 i ∧ i ≤ n ∧ Below w.heap.size w wr) (fun _ c _ => n - (intOf c).toNat)
  case atStart => exact ⟨0, rfl, rfl, Nat.zero_le _, Below.refl _ _⟩
  case round =>
    obtain ⟨i, rfl, rfl, hi, hb⟩ := hrel
    have B := box hb; clear hb
    have hl : ss.length = n := HR.out.1
    by_cases hin : i < n
    · obtain ⟨tb, tf, rfl, htb, htc⟩ := HR.out.2.2 (by omega)
      have hcell := (B.out.cell (by exact htb)).trans (htc i hin)
      have hs := at_le HT.out i (by omega)
      have FN := box (frames_next ss i (by omega))
      have hz1 := frames_le ss (i + 1) (by omega) HT.out (by omega)
      rw [FN.out] at hz1
      generalize hT : ss.getD i ByteArray.empty = tx at *
      clear hT
      have C := box (fun W => refPut_ok tx W (by omega))
      generalize frames (ss.take i) = z at *
      generalize frame tx = f at *
      rw [ByteArray.size_append] at hz1
      have hz2 : ¬ 9223372036854775807 < z.size + f.size := by omega
      clear htc hs hz1
      go_wp2_with fail
      refine (C.out _).mono ?_
      rintro e w1 ⟨rfl, hb1⟩
      have B1 := box (Below.grown B.out (Only.below hb1 none) B.out.size (by simp))
      clear hb1
      go_wp2_with fail
      exact ⟨⟨i + 1, by rw [FN.out], rfl, hin, B1.out⟩, by simp only [intOf]; omega⟩
    · have HT : ss.take i = ss := List.take_of_length_le (by omega)
      rw [HT]
      go_wp2_with fail
      go_ret2
      exact ⟨rfl, B.out⟩

theorem builderAt_later {w w' : World} {B b : Nat} {p : Value} {bs : List Value} (h : Lib.BuilderAt 98 5 B b p bs w) (hb : Below w.heap.size w w') : Lib.BuilderAt 98 5 B b p bs w' := by
  have hlt := h.lt
  obtain ⟨hB, v, hh, hown, hne⟩ := h
  refine ⟨hB, v, (hb.block b hlt).trans hh, own_kept hown (Only.below hb none) ?_, hne⟩
  cases hv : v.ownBlock with
  | none => exact .inl rfl
  | some k => exact .inr (by simp)
theorem isBuilder_later {w w' : World} {B b : Nat} {bs : List Value} (h : Lib.IsBuilder 98 5 B b bs w) (hb : Below w.heap.size w w') : Lib.IsBuilder 98 5 B b bs w' :=
  h.imp (fun h => builderAt_later h hb) (fun h => builderAt_later h hb)
def Built (w0 : World) (acc : ByteArray) (w' : World) : Prop :=
  Lib.IsBuilder 98 5 w0.heap.size w0.heap.size (Lib.byteCells acc.data.toList) w' ∧ (acc.size = 0 → w'.heap[w0.heap.size]? = some (.cells #[.pointer none, .slice none 0 0] 98 (0, 0))) ∧ Below w0.heap.size w0 w'
theorem Built.start (w : World) : Built w ⟨#[]⟩ (w.alloc (.cells #[.pointer none, .slice none 0 0] 98)) :=
  ⟨Lib.fresh_isBuilder 98 5 w, fun _ => Whole1.made _ _ _, Below.alloc (Below.refl _ _) (Nat.le_refl _) _⟩
theorem Built.later {w0 w w' : World} {acc : ByteArray} (h : Built w0 acc w) (hb : Below w.heap.size w w') : Built w0 acc w' :=
  ⟨isBuilder_later h.1 hb, fun h0 => (hb.block _ (Whole1.lt (h.2.1 h0))).trans (h.2.1 h0), Below.grown h.2.2 (Only.below hb none) h.2.2.size (by simp)⟩
theorem Built.write {w0 w : World} {acc : ByteArray} (s : ByteArray) (h : Built w0 acc w) (hl : acc.size + s.size ≤ 140737488355328) (hs : 0 < s.size) :
    Calls Try.prog 71 #[.pointer (some ⟨w0.heap.size, 0, none⟩), .string s] w fun e w' => e = .returned (.tuple #[.int .i64 s.size, .nilIface]) ∧ Built w0 (acc ++ s) w' := by
  refine (writeString_any w0.heap.size w0.heap.size _ s w h.1 (by rw [Lib.byteCells_length, len_list]; exact hl) h.2.2.size).mono ?_
  rintro e w' ⟨he, hb, hbel⟩
  refine ⟨he, .inr ?_, fun h0 => ?_, h.2.2.trans hbel⟩
  · rw [Lib.strCells_eq, ← Lib.byteCells_append] at hb
    have e1 : (acc ++ s).data.toList = acc.data.toList ++ s.data.toList := by simp
    rw [e1]; exact hb
  · rw [ByteArray.size_append] at h0; omega
theorem Built.string {w0 w : World} {acc : ByteArray} (h : Built w0 acc w) :
    Calls Try.prog 72 #[.pointer (some ⟨w0.heap.size, 0, none⟩)] w fun e w' => e = .returned (.string acc) ∧ Below w0.heap.size w0 w' := by
  by_cases h0 : acc.size = 0
  · have e : acc = ⟨#[]⟩ := by apply ByteArray.ext; apply Array.eq_empty_of_size_eq_zero; exact h0
    rw [e]
    refine (string_nil w0.heap.size _ _ w (h.2.1 h0)).mono ?_
    rintro e w' ⟨he, hb⟩
    exact ⟨he, h.2.2.trans hb⟩
  · refine (string_some w0.heap.size _ acc.data.toList w h.1 (fun e => h0 (by rw [← len_list, e]; rfl))).mono ?_
    rintro e w' ⟨he, hb⟩
    rw [mk_list] at he
    exact ⟨he, h.2.2.trans hb⟩

set_option maxHeartbeats 1000000 in
theorem frameAll_any (a : Option Addr) (n c : Nat) (ss : List ByteArray) (w : World) (hr : Strs3 w a n ss) (hn : n ≤ 200) (ht : total ss ≤ 32768) :
    Calls Try.prog 54 #[.slice a n c] w fun e w' => e = .returned (.tuple #[.string (frames ss), .int .i64 0]) ∧ Below w.heap.size w w' := by
  have HR := box hr; clear hr
  have HT := box ht; clear ht
  have B0 := box (Built.start w)
  go_enter Try.func54, Try.ntmps54
  go_wp2_with fail
  go_loopw [11] (fun c wr => ∃ (i : Nat), c = .int .i64 i ∧ i ≤ n ∧ Built w (frames (ss.take i)) wr) (fun c _ => n - (intOf c).toNat)
  case atStart => exact ⟨0, rfl, Nat.zero_le _, B0.out⟩
  case round =>
    obtain ⟨i, rfl, hi, hb⟩ := hrel
    have B := box hb; clear hb
    have hl : ss.length = n := HR.out.1
    by_cases hin : i < n
    · obtain ⟨tb, tf, rfl, htb, htc⟩ := HR.out.2.2 (by omega)
      have hcell := (B.out.2.2.cell (by exact htb)).trans (htc i hin)
      have hs := at_le HT.out i (by omega)
      have FN := box (frames_next ss i (by omega))
      have hz1 := frames_le ss (i + 1) (by omega) HT.out (by omega)
      rw [FN.out] at hz1
      generalize hT : ss.getD i ByteArray.empty = tx at *
      clear hT
      have C := box (fun W => framePut_ok tx W (by omega))
      have hf := frame_size tx
      generalize frames (ss.take i) = z at *
      generalize frame tx = f at *
      rw [ByteArray.size_append] at hz1
      have Z := box (And.intro hz1 hf)
      clear htc hs hz1 hf
      go_wp2_with fail
      refine (C.out _).mono ?_
      rintro e w1 ⟨rfl, hb1⟩
      have B1 := box (B.out.later hb1)
      clear hb1
      go_wp2_with fail
      refine (B1.out.write f (by have := Z.out; omega) (by have := Z.out; omega)).mono ?_
      rintro e w2 ⟨rfl, hb2⟩
      have B2 := box hb2
      clear hb2
      go_wp2_with fail
      exact ⟨⟨i + 1, rfl, hin, by rw [FN.out]; exact B2.out⟩, by simp only [intOf]; omega⟩
    · have HT : ss.take i = ss := List.take_of_length_le (by omega)
      rw [HT] at B
      have S := box (B.out.string)
      go_wp2_with fail
      refine S.out.mono ?_
      rintro e w2 ⟨rfl, hb2⟩
      have B2 := box hb2
      clear hb2
      go_wp2_with fail
      go_ret2
      exact ⟨rfl, B2.out⟩

end Go.Proofs.Ytafialodjnjihaa
