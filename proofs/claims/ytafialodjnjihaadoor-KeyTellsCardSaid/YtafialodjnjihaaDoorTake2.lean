/- key.Get's number and text. Conditions: the captured variables lie in blocks of their own; MaxLen's cell holds a number. -/
import Derived.Test.YtafialodjnjihaaDoorTake
namespace Go.Proofs.YtafialodjnjihaaDoor
open Go Go.RowKit Go.BigFrame
set_option maxRecDepth 100000
set_option linter.unusedVariables false

theorem Tabs6.turn {R D : Nat} {w w' : World} (h : Tabs6 w) (hT : Turn R D w w') (h3 : 3 < R ∧ 3 < D) : Tabs6 w' := by
  obtain ⟨m, hm⟩ := h.len
  have hl : 3 < w.heap.size := World.block_lt_of_cell? _ _ hm
  have hb : Below 4 w w' := hT.below (by omega) (by omega) (by omega)
  have h2 := h.tabs
  refine ⟨⟨⟨fun c hc => (hb.cell (p := ⟨1, c, none⟩) (show 1 < _ by omega)).trans (h2.1.1 c hc), fun i hi => ⟨(hb.cell (p := ⟨2, 2 * i, none⟩) (show 2 < _ by omega)).trans (h2.1.2 i hi).1, (hb.cell (p := ⟨2, 2 * i + 1, none⟩) (show 2 < _ by omega)).trans (h2.1.2 i hi).2⟩⟩, Nat.lt_of_lt_of_le h2.2 hb.size⟩, m, ?_⟩
  rw [← hm]; exact hb.cell (show 3 < _ by omega)
/-- take's value, as number finds it. -/
def takeF (R D : Nat) : Value := .func (.func 53) #[] #[.pointer (some ⟨R, 0, none⟩), .pointer (some ⟨D, 0, none⟩)]
theorem num_step (l : List UInt8) (c : UInt8) (hl : l.length < 8) : bits BinOp.or IntKind.u64 ((Kl.num l * 256 : Nat) : Int) (c.toNat : Int) = ((Kl.num (l ++ [c]) : Nat) : Int) := by
  have h1 := Kl.num_lt l
  have h2 : 256 ^ l.length ≤ 256 ^ 7 := Nat.pow_le_pow_right (by decide) (by omega)
  have h3 : (256 : Nat) ^ 7 = 72057594037927936 := by decide
  have hc := c.toNat_lt
  rw [or_u64 _ _ (by omega) (by omega), Nat.or_comm]
  have := or_add c.toNat (Kl.num l) 8 hc
  rw [show (2 : Nat) ^ 8 = 256 from rfl] at this
  rw [this, Kl.num_snoc, Nat.add_comm]
theorem take_num (l : List UInt8) (k : Nat) (h : k < l.length) : l.take (k + 1) = l.take k ++ [l.getD k 0] := by
  rw [List.take_add_one]; simp [h]
theorem num_small (l : List UInt8) (hl : l.length < 8) : ((Kl.num l * 256 : Nat) : Int) < 18446744073709551616 := by
  have h1 := Kl.num_lt l
  have h2 : 256 ^ l.length ≤ 256 ^ 7 := Nat.pow_le_pow_right (by decide) (by omega)
  have h3 : (256 : Nat) ^ 7 = 72057594037927936 := by decide
  omega

set_option maxHeartbeats 2000000 in
/-- number, whatever take hands it: eight bytes. -/
theorem number_any (q : ByteArray) (hq : q.size = 8) (R D T : Nat) (w : World) (S : World → Prop) (hT : Whole1 w T 75 #[takeF R D])
    (hC : Calls Tryd.prog 53 #[.int .i64 8, .pointer (some ⟨R, 0, none⟩), .pointer (some ⟨D, 0, none⟩)] w fun e w' => e = .returned (.string q) ∧ S w')
    (hS : ∀ w1 w2, S w1 → Below w1.heap.size w1 w2 → S w2) :
    Calls Tryd.prog 55 #[.pointer (some ⟨T, 0, none⟩)] w fun e w' => e = .returned (.int .u64 (Kl.num q.data.toList)) ∧ S w' := by
  have c0 : w.cell? ⟨T, 0, none⟩ = some (takeF R D) := hT.cell 0
  unfold takeF at c0
  have HS := box hS
  have HC := box hC
  clear hT hS hC
  go_enter Tryd.func55, Tryd.ntmps55
  go_wp2_with fail
  refine HC.out.mono ?_
  rintro e w1 ⟨rfl, hs1⟩
  have hcv := Lib.run_convert_string_bytes (P := Tryd.prog) w1 9 60 5 q Tryd.underlying9 Tryd.underlying60 Tryd.underlying5
  have HB := box (HS.out _ _ hs1 (Lib.bytesWorld_below w1 5 q))
  have HD := box (Lib.bytesWorld_cell w1 5 q)
  generalize Lib.bytesWorld w1 5 q = wb at *
  generalize grownCap w1 q.size 0 5 = cap at *
  rw [hq] at hcv
  have HQ := box hq
  clear hs1 hq c0
  go_wp2_with fail
  go_loop [1, 8] (fun v i => ∃ k : Nat, k ≤ 8 ∧ i = .int .i64 k ∧ v = .int .u64 (Kl.num (q.data.toList.take k))) (fun _ i => 8 - (intOf i).toNat)
  case atStart => exact ⟨0, Nat.zero_le _, rfl, rfl⟩
  case round =>
    obtain ⟨k, hk, rfl, rfl⟩ := hrel
    by_cases hlt : k < 8
    · have hc := HD.out k (by rw [HQ.out]; exact hlt)
      obtain ⟨c, hcc⟩ : ∃ c, q.data.toList.getD k 0 = c := ⟨_, rfl⟩
      rw [hcc] at hc
      have ql : q.data.toList.length = 8 := HQ.out
      have TK := box (take_num q.data.toList k (by omega))
      rw [hcc] at TK
      have hl : (q.data.toList.take k).length < 8 := by rw [List.length_take]; omega
      obtain ⟨l, hl'⟩ : ∃ l, q.data.toList.take k = l := ⟨_, rfl⟩
      rw [hl'] at TK hl
      rw [hl']
      have e1 := num_step l c hl
      have e2 := num_small l hl
      have hcb : (c.toNat : Int) < 256 := by have := c.toNat_lt; omega
      clear hcc hl' ql
      obtain ⟨z, hz⟩ : ∃ z, Kl.num l = z := ⟨_, rfl⟩
      obtain ⟨z2, hz2⟩ : ∃ z, Kl.num (l ++ [c]) = z := ⟨_, rfl⟩
      rw [hz] at e1 e2 ⊢
      rw [hz2] at e1
      have HZ2 := box hz2
      have E1 := box e1
      have E2 := box e2
      clear hz hz2 hl e1 e2
      go_wp2_with fail
      go_round
      case rel =>
        refine ⟨k + 1, hlt, by go_num, ?_⟩
        have hw : IntKind.u64.wrap ((z : Int) * 256) = ((z * 256 : Nat) : Int) := by
          have := E2.out
          rw [IntKind.wrap_u64]; omega
        rw [TK.out, HZ2.out, hw, E1.out]
      case measure => simp [intOf]; omega
    · obtain rfl : k = 8 := by omega
      go_wp2_with fail
      go_ret
      have e8 : q.data.toList.take 8 = q.data.toList := List.take_of_length_le (Nat.le_of_eq HQ.out)
      exact ⟨by show Ending.returned (.int .u64 (Kl.num (q.data.toList.take 8) : Nat)) = _; rw [e8], HB.out⟩
theorem num_zero (n : Nat) : Kl.num (List.replicate n 0) = 0 := by
  induction n with
  | zero => rfl
  | succ n ih => rw [List.replicate_succ, Kl.num_cons, ih]; simp
theorem turn_later {R D : Nat} {w w1 w2 : World} {t : ByteArray} {b : Bool} (h : Whole1 w1 R 9 #[.string t] ∧ Whole1 w1 D 4 #[.bool b] ∧ Turn R D w w1) (hb : Below w1.heap.size w1 w2) :
    Whole1 w2 R 9 #[.string t] ∧ Whole1 w2 D 4 #[.bool b] ∧ Turn R D w w2 := ⟨h.1.below hb h.1.lt, h.2.1.below hb h.2.1.lt, h.2.2.trans (Turn.of_below hb)⟩
theorem number_ok (t : ByteArray) (b : Bool) (R D T : Nat) (w : World) (hR : Whole1 w R 9 #[.string t]) (hD : Whole1 w D 4 #[.bool b]) (hT : Whole1 w T 75 #[takeF R D]) (hRD : R ≠ D) (h8 : 8 ≤ t.size) :
    Calls Tryd.prog 55 #[.pointer (some ⟨T, 0, none⟩)] w fun e w' => e = .returned (.int .u64 (Kl.num (t.data.toList.take 8))) ∧ Whole1 w' R 9 #[.string (t.extract 8 t.size)] ∧ Whole1 w' D 4 #[.bool b] ∧ Turn R D w w' := by
  have h := number_any (t.extract 0 8) (by rw [ByteArray.size_extract]; omega) R D T w _ hT (take_ok 8 t b R D w hR hD hRD h8) (fun w1 w2 h hb => turn_later h hb)
  have e : (t.extract 0 8).data.toList = t.data.toList.take 8 := by simp
  rw [e] at h
  exact h
theorem number_no (t : ByteArray) (b : Bool) (R D T : Nat) (w : World) (hR : Whole1 w R 9 #[.string t]) (hD : Whole1 w D 4 #[.bool b]) (hT : Whole1 w T 75 #[takeF R D]) (hRD : R ≠ D) (h8 : t.size < 8) :
    Calls Tryd.prog 55 #[.pointer (some ⟨T, 0, none⟩)] w fun e w' => e = .returned (.int .u64 0) ∧ Whole1 w' R 9 #[.string t] ∧ Whole1 w' D 4 #[.bool true] ∧ Turn R D w w' := by
  have h := number_any (zeroS 8) rfl R D T w _ hT (take_no 8 t b R D w hR hD hRD h8 (Nat.le_refl _)) (fun w1 w2 h hb => turn_later h hb)
  have e : Kl.num (zeroS 8).data.toList = 0 := num_zero 8
  rw [e] at h
  exact h
theorem back_str (t : ByteArray) (w : World) (ht : t.size ≤ 65536) (hT : Tabs6 w) :
    Calls Tryd.prog 51 #[.string t, .string ⟨#[0, 255]⟩, .string ⟨#[0]⟩] w fun e w' => e = .returned (.string ⟨(Lib.replaceAll t.data.toList [0, 255] [0]).toArray⟩) ∧ Below w.heap.size w w' := by
  obtain ⟨m, hm⟩ := hT.len
  exact replaceAll_any t ⟨#[0, 255]⟩ ⟨#[0]⟩ m w (by omega) hm (by decide) (by
    have h1 := Lib.count_le t.data.toList [0, 255]
    have h2 : t.data.toList.length = t.size := rfl
    show t.size + Lib.count t.data.toList [0, 255] * 1 ≤ _
    omega)
theorem index_any2 (t : ByteArray) (w : World) (ht : t.size ≤ 65536) (hT : Tabs6 w) (I : Int) (hI : Lib.index t.data.toList [0, 1] = I) :
    Calls Tryd.prog 57 #[.string t, .string ⟨#[0, 1]⟩] w fun e w' => e = .returned (.int .i64 I) ∧ w' = w := by
  obtain ⟨m, hm⟩ := hT.len
  rw [← hI]
  exact index_str t ⟨#[0, 1]⟩ m w (by omega) hm
set_option maxHeartbeats 2000000 in
theorem text_ok (t : ByteArray) (b : Bool) (i : Nat) (R D : Nat) (w : World) (hR : Whole1 w R 9 #[.string t]) (hD : Whole1 w D 4 #[.bool b]) (hRD : R ≠ D) (ht : t.size ≤ 65536) (hT : Tabs6 w) (h3 : 3 < R ∧ 3 < D) (hI : Lib.index t.data.toList [0, 1] = i) :
    Calls Tryd.prog 56 #[.pointer (some ⟨R, 0, none⟩), .pointer (some ⟨D, 0, none⟩)] w fun e w' => e = .returned (.string ⟨(Lib.replaceAll (t.data.toList.take i) [0, 255] [0]).toArray⟩) ∧ Whole1 w' R 9 #[.string (t.extract (i + 2) t.size)] ∧ Whole1 w' D 4 #[.bool b] ∧ Turn R D w w' := by
  have c0 : w.cell? ⟨R, 0, none⟩ = some (.string t) := hR.cell 0
  have f0 := hR.frozen 0
  have hroom : i + 2 ≤ t.size := by
    have := Lib.index_room t.data.toList [0, 1] (by omega)
    have h2 : t.data.toList.length = t.size := rfl
    rw [hI] at this
    simp at this
    omega
  have C57 := box (index_any2 t w ht hT i hI)
  have TR := box ((Turn.refl R D w).setR (.string (t.extract (i + 2) t.size)))
  have HR := box ((hR.put 0 (.string (t.extract (i + 2) t.size))).to (cs' := #[.string (t.extract (i + 2) t.size)]) rfl)
  have HD := box (hD.other (p := ⟨R, 0, none⟩) (fun e => hRD e.symm) (.string (t.extract (i + 2) t.size)))
  have ei : (t.extract 0 i).data.toList = t.data.toList.take i := by simp
  have C51 := box (back_str (t.extract 0 i) (w.setCell ⟨R, 0, none⟩ (.string (t.extract (i + 2) t.size))) (by rw [ByteArray.size_extract]; omega) (hT.turn TR.out h3))
  rw [ei] at C51
  have hi0 : ¬ (i : Int) < 0 := by omega
  have hroomI : (i : Int) + 2 ≤ (t.size : Int) := by omega
  clear hR hD hT hI ei
  go_enter Tryd.func56, Tryd.ntmps56
  go_wp2_with fail
  refine C57.out.mono ?_
  rintro e w1 ⟨rfl, rfl⟩
  go_wp2_with fail
  refine C51.out.mono ?_
  rintro e w2 ⟨rfl, hb⟩
  have K := box (turn_later ⟨HR.out, HD.out, TR.out⟩ hb)
  clear hb
  go_wp2_with fail
  go_ret
  exact ⟨rfl, K.out⟩
set_option maxHeartbeats 2000000 in
theorem text_no (t : ByteArray) (b : Bool) (R D : Nat) (w : World) (hR : Whole1 w R 9 #[.string t]) (hD : Whole1 w D 4 #[.bool b]) (hRD : R ≠ D) (ht : t.size ≤ 65536) (hT : Tabs6 w) (hI : Lib.index t.data.toList [0, 1] = -1) :
    Calls Tryd.prog 56 #[.pointer (some ⟨R, 0, none⟩), .pointer (some ⟨D, 0, none⟩)] w fun e w' => e = .returned (.string ⟨#[]⟩) ∧ Whole1 w' R 9 #[.string t] ∧ Whole1 w' D 4 #[.bool true] ∧ Turn R D w w' := by
  have c0 : w.cell? ⟨R, 0, none⟩ = some (.string t) := hR.cell 0
  have d0 : w.cell? ⟨D, 0, none⟩ = some (.bool b) := hD.cell 0
  have f0 := hD.frozen 0
  have C57 := box (index_any2 t w ht hT (-1) hI)
  have HR := box hR
  have HD := box hD
  clear hR hD hT hI
  go_enter Tryd.func56, Tryd.ntmps56
  go_wp2_with fail
  refine C57.out.mono ?_
  rintro e w1 ⟨rfl, rfl⟩
  go_wp2_with fail
  go_ret
  exact ⟨rfl, HR.out.other hRD _, (HD.out.put 0 _).to rfl, (Turn.refl R D _).setD _⟩
end Go.Proofs.YtafialodjnjihaaDoor
