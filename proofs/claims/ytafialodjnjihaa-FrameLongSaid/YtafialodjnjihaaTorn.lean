/- Frames that are torn, or spoilt, plain: where reading them stops. No condition. -/
import Derived.Test.YtafialodjnjihaaScan
namespace Go.Proofs.Ytafialodjnjihaa
open Go Go.RowKit Go.BigFrame
set_option maxRecDepth 100000
set_option linter.unusedVariables false

theorem toL {a b : ByteArray} (h : a.data.toList = b.data.toList) : a = b := ByteArray.ext (Array.toList_inj.1 h)
theorem catL (a b : ByteArray) : (a ++ b).data.toList = a.data.toList ++ b.data.toList := by simp
theorem extL (a : ByteArray) (i j : Nat) : (a.extract i j).data.toList = (a.data.toList.drop i).take (j - i) := by
  rw [ByteArray.data_extract, Array.toList_extract]
/-- The bytes of a list. -/
def ofL (l : List UInt8) : ByteArray := ⟨l.toArray⟩
theorem ofL_L (l : List UInt8) : (ofL l).data.toList = l := rfl
theorem ofL_size (l : List UInt8) : (ofL l).size = l.length := by simp [ofL, ByteArray.size]
theorem sizeL (a : ByteArray) : a.size = a.data.toList.length := (len_list a).symm

theorem ext_left (a b : ByteArray) (n : Nat) (h : a.size = n) : (a ++ b).extract 0 n = a := by
  apply toL; rw [extL, catL, List.drop_zero, Nat.sub_zero, List.take_left' (by rw [← sizeL]; exact h)]
theorem ext_right (a b : ByteArray) (i j n : Nat) (h : a.size = n) : (a ++ b).extract (n + i) (n + j) = b.extract i j := by
  apply toL
  rw [extL, catL, extL, ← List.drop_drop, List.drop_left' (by rw [← sizeL]; exact h)]
  congr 1; omega
theorem ext_all (a : ByteArray) (n : Nat) (h : a.size = n) : a.extract 0 n = a := by
  apply toL; rw [extL, List.drop_zero, Nat.sub_zero, List.take_of_length_le (by rw [← sizeL]; omega)]

/-- What is looked at of bytes whose parts are known. -/
theorem parts (A B C T : ByteArray) (hA : A.size = 4) (hB : B.size = 4) (hC : C.size = 4) :
    (A ++ (B ++ (C ++ T))).extract 0 4 = A ∧ (A ++ (B ++ (C ++ T))).extract 4 8 = B ∧ (A ++ (B ++ (C ++ T))).extract 8 12 = C ∧ (∀ n, (A ++ (B ++ (C ++ T))).extract 12 (12 + n) = T.extract 0 n) ∧ (A ++ (B ++ (C ++ T))).size = 12 + T.size := by
  refine ⟨ext_left _ _ _ hA, ?_, ?_, ?_, ?_⟩
  · rw [show (4 : Nat) = 4 + 0 from rfl, show (8 : Nat) = 4 + 4 from rfl, ext_right _ _ _ _ _ hA]
    exact ext_left _ _ _ hB
  · rw [show (8 : Nat) = 4 + 4 from rfl, show (12 : Nat) = 4 + 8 from rfl, ext_right _ _ _ _ _ hA, show (4 : Nat) = 4 + 0 from rfl, show (8 : Nat) = 4 + 4 from rfl, ext_right _ _ _ _ _ hB]
    exact ext_left _ _ _ hC
  · intro n
    rw [show (12 : Nat) = 4 + 8 from rfl, show 4 + 8 + n = 4 + (8 + n) by omega, ext_right _ _ _ _ _ hA, show (8 : Nat) = 4 + 4 from rfl, show 4 + 4 + n = 4 + (4 + n) by omega, ext_right _ _ _ _ _ hB]
    have := ext_right C T 0 n 4 hC
    simpa using this
  · simp [hA, hB, hC]; omega

theorem nxt_parts (A B C T : ByteArray) (hA : A.size = 4) (hB : B.size = 4) (hC : C.size = 4) :
    nxt (A ++ (B ++ (C ++ T))) = if sumB A ≠ num B ∨ 4194304 < num A then (⟨#[]⟩, 71) else if T.size < num A then (⟨#[]⟩, 70) else if sumB (T.extract 0 (num A)) ≠ num C then (⟨#[]⟩, 71) else (T.extract 0 (num A), 0) := by
  obtain ⟨h1, h2, h3, h4, h5⟩ := parts A B C T hA hB hC
  unfold nxt
  rw [h1, h2, h3, h4, h5, if_neg (by omega)]
  by_cases h : T.size < num A
  · rw [if_pos h, if_pos (show 12 + T.size < 12 + num A by omega)]
  · rw [if_neg h, if_neg (show ¬ 12 + T.size < 12 + num A by omega)]

theorem frame_parts (s t : ByteArray) : frame s ++ t = four s.size ++ (four (sumB (four s.size)) ++ (four (sumB s) ++ (s ++ t))) := by
  unfold frame head; simp only [ByteArray.append_assoc]

/-- A whole frame is told. -/
theorem nxt_whole (s t : ByteArray) (hs : s.size ≤ 4194304) : nxt (frame s ++ t) = (s, 0) := by
  have n1 : num (four s.size) = s.size := num_four _ (by omega)
  rw [frame_parts, nxt_parts _ _ _ _ (four_size _) (four_size _) (four_size _), n1, num_four _ (sumB_lt _), num_four _ (sumB_lt _), if_neg (by rintro (h | h); exact h rfl; omega), if_neg (by simp)]
  rw [ext_left _ _ _ rfl, if_neg (by simp)]

/-- A beginning of a frame is torn. -/
theorem nxt_torn' (s R t : ByteArray) (hs : s.size ≤ 4194304) (h : frame s = R ++ t) (ht : 0 < t.size) : nxt R = (⟨#[]⟩, 70) := by
  by_cases h8 : R.size < 8
  · unfold nxt; rw [if_pos h8]
  · have hsz : 12 + s.size = R.size + t.size := by rw [← frame_size, h, ByteArray.size_append]
    have n1 : num (four s.size) = s.size := num_four _ (by omega)
    have e1 : R.extract 0 4 = four s.size := by
      have h1 : (frame s).extract 0 4 = four s.size := by
        have := frame_parts s ⟨#[]⟩
        have e0 : frame s ++ ⟨#[]⟩ = frame s := by apply toL; rw [catL]; simp
        rw [e0] at this
        rw [this]; exact ext_left _ _ _ (four_size _)
      rw [← h1, h]
      apply toL; rw [extL, extL, catL, List.drop_zero, List.drop_zero, List.take_append_of_le_length (by rw [← sizeL]; omega)]
    have e2 : R.extract 4 8 = four (sumB (four s.size)) := by
      have h1 : (frame s).extract 4 8 = four (sumB (four s.size)) := by
        have := frame_parts s ⟨#[]⟩
        have e0 : frame s ++ ⟨#[]⟩ = frame s := by apply toL; rw [catL]; simp
        rw [e0] at this
        rw [this]; exact (parts _ _ _ _ (four_size _) (four_size _) (four_size _)).2.1
      rw [← h1, h]
      apply toL
      rw [extL, extL, catL, List.drop_append_of_le_length (by rw [← sizeL]; omega), List.take_append_of_le_length (by rw [List.length_drop, ← sizeL]; omega)]
    unfold nxt
    rw [if_neg h8, e1, e2, n1, num_four _ (sumB_lt _), if_neg (by rintro (h | h); exact h rfl; omega), if_pos (by omega)]

/-- where the frames of the first k texts end -/
def pos (ss : List ByteArray) (k : Nat) : Nat := 12 * k + total (ss.take k)
theorem pos_zero (ss : List ByteArray) : pos ss 0 = 0 := by simp [pos, total]
theorem pos_succ (ss : List ByteArray) (k : Nat) (h : k < ss.length) : pos ss (k + 1) = pos ss k + 12 + (ss.getD k ByteArray.empty).size := by
  unfold pos; rw [total_take ss k h]; omega
theorem frames_pos (ss : List ByteArray) (k : Nat) (h : k ≤ ss.length) : (frames (ss.take k)).size = pos ss k := by
  rw [frames_size, List.length_take, Nat.min_eq_left h]; rfl
theorem frames_cat (a b : List ByteArray) : frames (a ++ b) = frames a ++ frames b := by
  apply toL; rw [catL]; simp [frames]
theorem frames_one (s : ByteArray) (l : List ByteArray) : frames (s :: l) = frame s ++ frames l := by
  apply toL; rw [catL]; simp [frames]
theorem frames_at (ss : List ByteArray) (k : Nat) (h : k < ss.length) : frames ss = frames (ss.take k) ++ (frame (ss.getD k ByteArray.empty) ++ frames (ss.drop (k + 1))) := by
  conv => lhs; rw [← List.take_append_drop k ss, List.drop_eq_getElem_cons h]
  rw [frames_cat, frames_one]; simp [h]

theorem rest_cat (a b : ByteArray) (n : Nat) (h : a.size = n) : rest (a ++ b) n = b := by
  unfold rest
  have := ext_right a b 0 b.size n h
  rw [ByteArray.size_append, h]
  rw [show n + 0 = n from rfl] at this
  rw [this, ext_all _ _ rfl]

theorem getD_le {ss : List ByteArray} {m : Nat} (h : ∀ s ∈ ss, s.size ≤ m) (k : Nat) (hk : k < ss.length) : (ss.getD k ByteArray.empty).size ≤ m := by
  have e : ss.getD k ByteArray.empty = ss[k] := by simp [hk]
  rw [e]; exact h _ (List.getElem_mem hk)

/-- Bytes that begin as frames do are read so far. -/
theorem st_begin (ss : List ByteArray) (b : ByteArray) (hm : ∀ s ∈ ss, s.size ≤ 4194304) : ∀ k, k ≤ ss.length → (∃ t, b = frames (ss.take k) ++ t) → st b k = some (pos ss k, ss.take k) := by
  intro k
  induction k with
  | zero => intro _ _; simp [st, pos, total]
  | succ k ih =>
    rintro hk ⟨t, rfl⟩
    have e : frames (ss.take (k + 1)) ++ t = frames (ss.take k) ++ (frame (ss.getD k ByteArray.empty) ++ t) := by
      rw [take_at ss k (by omega), frames_snoc, ByteArray.append_assoc]
    have h1 := ih (by omega) ⟨_, e⟩
    have hr : rest (frames (ss.take (k + 1)) ++ t) (pos ss k) = frame (ss.getD k ByteArray.empty) ++ t := by
      rw [e]; exact rest_cat _ _ _ (frames_pos ss k (by omega))
    have hn := nxt_whole (ss.getD k ByteArray.empty) t (getD_le hm k (by omega))
    have := st_step h1 (by rw [e, ByteArray.size_append, frames_pos ss k (by omega), ByteArray.size_append, frame_size]; omega) (by rw [hr, hn])
    rw [this, hr, hn, pos_succ ss k (by omega), take_at ss k (by omega)]

/-- How many frames are whole within n bytes. -/
def Wholes (ss : List ByteArray) (n k : Nat) : Prop := k ≤ ss.length ∧ pos ss k ≤ n ∧ (k < ss.length → n < pos ss (k + 1))

theorem frames_len (ss : List ByteArray) : (frames ss).size = pos ss ss.length := by
  have := frames_pos ss ss.length (Nat.le_refl _)
  rwa [List.take_length] at this

/-- A beginning of frames: those that are whole are told; what is left is torn. -/
theorem torn_stops (ss : List ByteArray) (n k : Nat) (hm : ∀ s ∈ ss, s.size ≤ 4194304) (hn : n ≤ (frames ss).size) (hk : Wholes ss n k) :
    Stops ((frames ss).extract 0 n) (ss.take k) (pos ss k) (if pos ss k = n then 0 else 70) := by
  obtain ⟨h1, h2, h3⟩ := hk
  have hsz : ((frames ss).extract 0 n).size = n := by simp [ByteArray.size_extract]; omega
  have hfk := frames_pos ss k h1
  have hb : (frames ss).extract 0 n = frames (ss.take k) ++ (frames (ss.drop k)).extract 0 (n - pos ss k) := by
    have e : frames ss = frames (ss.take k) ++ frames (ss.drop k) := by rw [← frames_cat, List.take_append_drop]
    apply toL
    rw [catL, extL, extL, e, catL, List.drop_zero, List.drop_zero, List.take_append, ← sizeL, hfk, List.take_of_length_le (by rw [← sizeL, hfk]; omega)]
    simp
  refine ⟨k, st_begin ss _ hm k h1 ⟨_, hb⟩, ?_⟩
  by_cases he : pos ss k = n
  · rw [if_pos he]; exact .inl ⟨by rw [hsz, he], rfl⟩
  · rw [if_neg he]
    refine .inr ⟨by rw [hsz]; omega, ?_, by decide⟩
    have hlt : k < ss.length := by
      rcases Nat.lt_or_ge k ss.length with h | h
      · exact h
      · exfalso
        obtain rfl : k = ss.length := by omega
        rw [frames_len] at hn; omega
    have h4 := h3 hlt
    rw [pos_succ ss k hlt] at h4
    rw [hb, rest_cat _ _ _ hfk, List.drop_eq_getElem_cons hlt, frames_one]
    have e1 : ss[k] = ss.getD k ByteArray.empty := by simp [hlt]
    rw [e1]
    generalize hs : ss.getD k ByteArray.empty = s at *
    have hss : s.size ≤ 4194304 := by rw [← hs]; exact getD_le hm k hlt
    have hf := frame_size s
    have e2 : (frame s ++ frames (ss.drop (k + 1))).extract 0 (n - pos ss k) = (frame s).extract 0 (n - pos ss k) := by
      apply toL; rw [extL, extL, catL, List.drop_zero, List.drop_zero, List.take_append_of_le_length (by rw [← sizeL]; omega)]
    rw [e2]
    have e3 : frame s = (frame s).extract 0 (n - pos ss k) ++ (frame s).extract (n - pos ss k) (12 + s.size) := by
      apply toL
      rw [catL, extL, extL, List.drop_zero, Nat.sub_zero]
      conv => lhs; rw [← List.take_append_drop (n - pos ss k) (frame s).data.toList]
      rw [List.take_of_length_le (l := List.drop _ _) (by rw [List.length_drop, ← sizeL, hf]; omega)]
    rw [nxt_torn' s _ _ hss e3 (by simp [ByteArray.size_extract]; omega)]

/-- The same bytes but one. -/
def turn (b : ByteArray) (n : Nat) (x : UInt8) : ByteArray := ofL (b.data.toList.set n (b.data.toList.getD n 0 ^^^ x))
theorem turn_L (b : ByteArray) (n : Nat) (x : UInt8) : (turn b n x).data.toList = b.data.toList.set n (b.data.toList.getD n 0 ^^^ x) := rfl
theorem turn_size (b : ByteArray) (n : Nat) (x : UInt8) : (turn b n x).size = b.size := by
  rw [sizeL, turn_L, List.length_set, sizeL]
theorem turn_left (a b : ByteArray) (n : Nat) (x : UInt8) (h : n < a.size) : turn (a ++ b) n x = turn a n x ++ b := by
  have h' : n < a.data.toList.length := by rw [← sizeL]; exact h
  apply toL; rw [turn_L, catL, catL, turn_L, List.set_append_left _ _ h']
  simp only [List.getD_eq_getElem?_getD, List.getElem?_append_left h']
theorem turn_right (a b : ByteArray) (n m : Nat) (x : UInt8) (h : a.size + m = n) : turn (a ++ b) n x = a ++ turn b m x := by
  subst h
  have h' : a.data.toList.length ≤ a.size + m := by rw [← sizeL]; omega
  apply toL; rw [turn_L, catL, catL, turn_L, List.set_append_right _ _ h']
  have : a.size + m - a.data.toList.length = m := by rw [← sizeL]; omega
  simp only [List.getD_eq_getElem?_getD, List.getElem?_append_right h', this]
theorem xor_ne (c x : UInt8) (hx : x ≠ 0) : c ^^^ x ≠ c := by
  intro h
  apply hx
  have : c ^^^ (c ^^^ x) = c ^^^ c := by rw [h]
  rwa [← UInt8.xor_assoc, UInt8.xor_self, UInt8.zero_xor] at this
theorem turn_ne (b : ByteArray) (n : Nat) (x : UInt8) (hn : n < b.size) (hx : x ≠ 0) : turn b n x ≠ b := by
  intro h
  have h' : n < b.data.toList.length := by rw [← sizeL]; exact hn
  have h1 := congrArg (fun b : ByteArray => b.data.toList[n]?) h
  simp only [turn_L] at h1
  rw [List.getElem?_set_self h', List.getElem?_eq_getElem h', List.getD_eq_getElem?_getD, List.getElem?_eq_getElem h'] at h1
  simp only [Option.getD_some, Option.some.injEq] at h1
  exact xor_ne _ _ hx h1
theorem turn_sum (b : ByteArray) (n : Nat) (x : UInt8) (hn : n < b.size) (hx : x ≠ 0) : sumB (turn b n x) ≠ sumB b := by
  unfold sumB
  have h' : n < b.data.toList.length := by rw [← sizeL]; exact hn
  have e : bytesN (turn b n x) = (bytesN b).set n ((bytesN b).getD n 0 ^^^ x.toNat) := by
    unfold bytesN
    rw [turn_L, List.map_set]
    congr 1
    simp [List.getD_eq_getElem?_getD, List.getElem?_eq_getElem h']
  rw [e]
  refine Crc.sum_byte _ _ _ (by rw [bytesN_len]; exact hn) ?_ x.toNat_lt
  rcases Nat.eq_zero_or_pos x.toNat with h | h
  · exfalso; apply hx; exact UInt8.toNat_inj.1 h
  · exact h
theorem turn_num (b : ByteArray) (n : Nat) (x : UInt8) (hn : n < b.size) (h4 : b.size = 4) (hx : x ≠ 0) : num (turn b n x) ≠ num b := by
  intro h
  have h1 := four_num (turn b n x) (by rw [turn_size, h4])
  rw [h, four_num b h4] at h1
  exact turn_ne b n x hn hx h1.symm

/-- A frame in which a byte is another one is bad. -/
theorem nxt_spoilt (s t : ByteArray) (o : Nat) (x : UInt8) (hs : s.size ≤ 4194304) (ho : o < 12 + s.size) (hx : x ≠ 0) : nxt (turn (frame s ++ t) o x) = (⟨#[]⟩, 71) := by
  have n1 : num (four s.size) = s.size := num_four _ (by omega)
  have z := four_size s.size
  have z2 := four_size (sumB (four s.size))
  have z3 := four_size (sumB s)
  have n2 : num (four (sumB (four s.size))) = sumB (four s.size) := num_four _ (sumB_lt _)
  have n3 : num (four (sumB s)) = sumB s := num_four _ (sumB_lt _)
  rw [frame_parts]
  generalize four (sumB s) = C at *
  generalize hB : four (sumB (four s.size)) = B at *
  generalize hA : four s.size = A at *
  by_cases h4 : o < 4
  · rw [turn_left _ _ _ _ (by omega), nxt_parts _ _ _ _ (by rw [turn_size]; exact z) z2 z3, if_pos (.inl (by rw [n2]; exact turn_sum A o x (by omega) hx))]
  · rw [turn_right A _ o (o - 4) x (by omega)]
    by_cases h8 : o < 8
    · rw [turn_left _ _ _ _ (by omega), nxt_parts _ _ _ _ z (by rw [turn_size]; exact z2) z3, if_pos (.inl (by rw [← n2]; exact fun h => turn_num B (o - 4) x (by omega) z2 hx h.symm))]
    · rw [turn_right B _ (o - 4) (o - 8) x (by omega)]
      by_cases h12 : o < 12
      · rw [turn_left _ _ _ _ (by omega), nxt_parts _ _ _ _ z z2 (by rw [turn_size]; exact z3), n1, n2, if_neg (by rintro (h | h); exact h rfl; omega), if_neg (by simp), ext_left _ _ _ rfl, ← n3]
        rw [if_pos (fun h => turn_num C (o - 8) x (by omega) z3 hx h.symm)]
      · rw [turn_right C _ (o - 8) (o - 12) x (by omega), turn_left _ _ _ _ (by omega), nxt_parts _ _ _ _ z z2 z3, n1, n2, if_neg (by rintro (h | h); exact h rfl; omega), if_neg (by simp [turn_size]), ext_left _ _ _ (turn_size _ _ _), n3]
        rw [if_pos (turn_sum s (o - 12) x (by omega) hx)]

theorem spoilt_stops (ss : List ByteArray) (n k : Nat) (x : UInt8) (hm : ∀ s ∈ ss, s.size ≤ 4194304) (hn : n < (frames ss).size) (hk : Wholes ss n k) (hx : x ≠ 0) :
    Stops (turn (frames ss) n x) (ss.take k) (pos ss k) 71 := by
  obtain ⟨h1, h2, h3⟩ := hk
  have hfk := frames_pos ss k h1
  have hlt : k < ss.length := by
    rcases Nat.lt_or_ge k ss.length with h | h
    · exact h
    · exfalso
      obtain rfl : k = ss.length := by omega
      rw [frames_len] at hn; omega
  have h4 := h3 hlt
  rw [pos_succ ss k hlt] at h4
  have hb : turn (frames ss) n x = frames (ss.take k) ++ turn (frame (ss.getD k ByteArray.empty) ++ frames (ss.drop (k + 1))) (n - pos ss k) x := by
    rw [frames_at ss k hlt]; exact turn_right _ _ _ _ _ (by omega)
  refine ⟨k, st_begin ss _ hm k h1 ⟨_, hb⟩, .inr ⟨by rw [turn_size]; omega, ?_, by decide⟩⟩
  rw [hb, rest_cat _ _ _ hfk, nxt_spoilt _ _ _ _ (getD_le hm k hlt) (by omega) hx]
end Go.Proofs.Ytafialodjnjihaa
