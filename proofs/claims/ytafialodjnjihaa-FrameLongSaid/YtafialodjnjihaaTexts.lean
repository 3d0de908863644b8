/- Slices of texts: Large, SameTexts; frames of texts, plain. No condition. -/
import Derived.Test.YtafialodjnjihaaFrame
import Derived.Test.YtafialodjnjihaaArgs
import Derived.Test.YtafialodjnjihaaBuilder
namespace Go.Proofs.Ytafialodjnjihaa
open Go Go.RowKit Go.BigFrame
set_option maxRecDepth 100000
set_option linter.unusedVariables false

/-- A slice of texts: what a walk asks of it. -/
def Strs3 (w : World) (a : Option Addr) (n : Nat) (ss : List ByteArray) : Prop :=
  ss.length = n ∧ n ≤ maxLen ∧
    (0 < n → ∃ b off, a = some ⟨b, off, none⟩ ∧ b < w.heap.size ∧ ∀ i, i < n → w.cell? ⟨b, off + i, none⟩ = some (.string (ss.getD i ByteArray.empty)))
theorem strs3_of {w : World} {a : Option Addr} {n : Nat} {ss : List ByteArray} (h : Strs w a n ss) : Strs3 w a n ss := ⟨h.1, h.2.2.1, h.2.2.2⟩
theorem strs3_below {w w' : World} {n : Nat} {a : Option Addr} {ss : List ByteArray} (h : Strs3 w a n ss) (hg : Below w.heap.size w w') : Strs3 w' a n ss :=
  ⟨h.1, h.2.1, fun h0 => by
    obtain ⟨b, off, rfl, hb, hc⟩ := h.2.2 h0
    exact ⟨b, off, rfl, Nat.lt_of_lt_of_le hb hg.size, fun i hi => (hg.cell (by exact hb)).trans (hc i hi)⟩⟩

/-- how many bytes the first k texts have -/
def total (ss : List ByteArray) : Nat := (ss.map ByteArray.size).sum
theorem total_cat (a b : List ByteArray) : total (a ++ b) = total a + total b := by simp [total]
theorem take_at (ss : List ByteArray) (i : Nat) (h : i < ss.length) : ss.take (i + 1) = ss.take i ++ [ss.getD i ByteArray.empty] := by
  rw [List.take_add_one]; simp [h]

theorem total_take (ss : List ByteArray) (i : Nat) (h : i < ss.length) : total (ss.take (i + 1)) = total (ss.take i) + (ss.getD i ByteArray.empty).size := by
  rw [take_at ss i h, total_cat]; simp [total]
theorem total_le (ss : List ByteArray) (m : Nat) (h : ∀ s ∈ ss, s.size ≤ m) : total ss ≤ ss.length * m := by
  induction ss with
  | nil => simp [total]
  | cons s ss ih =>
    have h1 := ih (fun x hx => h x (List.mem_cons_of_mem _ hx))
    have h2 := h s (List.mem_cons_self)
    simp only [total, List.map_cons, List.sum_cons, List.length_cons] at h1 ⊢
    rw [Nat.add_mul]; omega
theorem total_mono (ss : List ByteArray) (i : Nat) : total (ss.take i) ≤ total ss := by
  have := List.take_append_drop i ss
  conv => rhs; rw [← this, total_cat]
  omega

def LargeSays7 (n : Nat) (ss : List ByteArray) (w : World) (e : Ending) (w' : World) : Prop := ∃ B, e = .returned (.bool B) ∧ (B = false → n ≤ 200 ∧ total ss ≤ 32768) ∧ w = w'
set_option maxHeartbeats 1000000 in
theorem large7_any (a : Option Addr) (n c : Nat) (ss : List ByteArray) (w : World) (hm : ∀ s ∈ ss, s.size ≤ 140737488355328) (hr : Strs3 w a n ss) :
    Calls Try.prog 52 #[.slice a n c] w (LargeSays7 n ss w) := by
  have HR := box hr; clear hr
  have HM := box hm; clear hm
  go_enter Try.func52, Try.ntmps52
  go_wp2_with fail
  go_loop [3, 4] (fun m c => ∃ (i : Nat), m = .int .i64 (total (ss.take i) : Nat) ∧ c = .int .i64 i ∧ i ≤ n ∧ i ≤ 300) (fun _ c => n - (intOf c).toNat)
  case atStart => exact ⟨0, rfl, rfl, Nat.zero_le _, Nat.zero_le _⟩
  case round =>
    obtain ⟨i, rfl, rfl, hi, hi3⟩ := hrel
    have hl : ss.length = n := HR.out.1
    by_cases hin : i < n
    · by_cases hi3' : i < 300
      · obtain ⟨tb, tf, rfl, htb, htc⟩ := HR.out.2.2 (by omega)
        have hcell := htc i hin
        have hT := total_take ss i (by omega)
        have hL := total_le (ss.take (i + 1)) 140737488355328 (fun s hs => HM.out s (List.mem_of_mem_take hs))
        have hlen : (ss.take (i + 1)).length ≤ 300 := by simp; omega
        have hB : total (ss.take (i + 1)) ≤ 42221246506598400 := Nat.le_trans hL (Nat.le_trans (Nat.mul_le_mul_right _ hlen) (by decide))
        generalize ss.getD i ByteArray.empty = tx at *
        have hw : wrap64 ((total (ss.take i) : Int) + (tx.size : Int)) = ((total (ss.take (i + 1)) : Nat) : Int) := by rw [IntWalk.wrap64_in _ (by omega)]; omega
        have HX := box (And.intro hT (And.intro hL hB))
        clear htc hT hL hB
        generalize total (ss.take i) = z at *
        generalize hz1 : total (ss.take (i + 1)) = z1 at *
        have HZ := box hz1
        clear hz1
        go_wp2_with fail
        exact ⟨⟨i + 1, by rw [HZ.out, hw], rfl, hin, by omega⟩, by simp only [intOf]; omega⟩
      · have hs : ss.length = n := hl
        go_wp2_with fail
        all_goals (go_ret; exact ⟨_, rfl, (by first | (intro h; cases h; done) | (intro h; simp at h; omega) | (intro _; omega)), rfl⟩)
    · have HT : ss.take i = ss := List.take_of_length_le (by omega)
      rw [HT]
      go_wp2_with fail
      all_goals (go_ret; exact ⟨_, rfl, (by first | (intro h; cases h; done) | (intro h; simp at h; omega) | (intro _; omega)), rfl⟩)

/-- Two slices of texts that hold the same texts. -/
theorem sameTexts_any (a a' : Option Addr) (n c c' : Nat) (ss : List ByteArray) (w : World) (hr : Strs3 w a n ss) (hr' : Strs3 w a' n ss) :
    Calls Try.prog 56 #[.slice a n c, .slice a' n c'] w fun e w' => e = .returned (.bool true) ∧ ∃ q, w' = w.drewN q := by
  have HR := box hr; clear hr
  have HR' := box hr'; clear hr'
  go_enter Try.func56, Try.ntmps56
  go_wp2_with fail
  go_loopw [5] (fun c wr => ∃ (i : Nat), c = .int .i64 i ∧ i ≤ n ∧ ∃ q, wr = w.drewN q) (fun c _ => n - (intOf c).toNat)
  case atStart => exact ⟨0, rfl, Nat.zero_le _, 0, rfl⟩
  case round =>
    obtain ⟨i, rfl, hi, q, rfl⟩ := hrel
    by_cases hin : i < n
    · obtain ⟨tb, tf, rfl, htb, htc⟩ := HR.out.2.2 (by omega)
      obtain ⟨tb', tf', rfl, htb', htc'⟩ := HR'.out.2.2 (by omega)
      have p0 := htc i hin
      have q0 := htc' i hin
      generalize ss.getD i ByteArray.empty = r at *
      have hd : decide (i < n) = true := by simpa using hin
      have hwrap : wrap64 ((i : Int) + 1) = ((i + 1 : Nat) : Int) := by have := HR.out.2.1; unfold maxLen at this; rw [IntWalk.wrap64_in _ (by omega)]; rfl
      clear htc htc'
      go_wp2_with fail
      go_quiet (fail)
      go_wp2_with fail
      refine ⟨⟨i + 1, by first | rw [hwrap] | rfl, hin, _, rfl⟩, by first | (rw [hwrap]; simp only [intOf]; omega) | (simp only [intOf]; omega)⟩
    · go_wp2_with fail
      all_goals (go_ret; exact ⟨rfl, q, rfl⟩)

/-- All the frames of texts: none is too long. -/
def frames (ss : List ByteArray) : ByteArray := ⟨(ss.flatMap fun s => (frame s).data.toList).toArray⟩
theorem frames_snoc (ss : List ByteArray) (s : ByteArray) : frames (ss ++ [s]) = frames ss ++ frame s := by
  apply ByteArray.ext
  simp [frames]
theorem frame_size (s : ByteArray) : (frame s).size = 12 + s.size := by
  simp [frame, head, four_size]
theorem frames_size (ss : List ByteArray) : (frames ss).size = 12 * ss.length + total ss := by
  induction ss with
  | nil => rfl
  | cons s ss ih =>
    have h1 := frame_size s
    have e : frames (s :: ss) = frame s ++ frames ss := by apply ByteArray.ext; simp [frames]
    rw [e, ByteArray.size_append, h1, ih]
    have : total (s :: ss) = s.size + total ss := by simp [total]
    rw [this, List.length_cons]; omega
end Go.Proofs.Ytafialodjnjihaa
