/- The reference's key of a value and of a row, and whether a row has one. Conditions: utf8's two tables read as the program lays them. -/
import Derived.Test.YtafialodjnjihaaDoorUntext
namespace Go.Proofs.YtafialodjnjihaaDoor
open Go Go.RowKit Go.BigFrame
set_option maxRecDepth 100000
set_option linter.unusedVariables false

theorem conv_one (b : UInt8) (W : World) (G : Nat) (hG : W.heap.size = G) : (convert 60 9 (.slice (some ⟨G, 0, none⟩) 1 1)).run Tryd.prog (W.alloc (.cells #[byteV b] 5)) = .ok (.string ⟨#[b]⟩) (W.alloc (.cells #[byteV b] 5)) := by
  subst hG
  refine run_convert_bytes_back (P := Tryd.prog) _ 60 9 5 ⟨W.heap.size, 0, none⟩ 1 [b] Tryd.underlying60 Tryd.underlying5 Tryd.underlying9 (fun j hj => ?_)
  rw [addr_add0]
  refine Eq.trans ((Whole1.made W 5 #[byteV b]).cell j) ?_
  obtain rfl : j = 0 := by simpa using hj
  rfl
theorem flip_add (i : Int) (h : -9223372036854775808 ≤ i ∧ i < 9223372036854775808) : IntKind.u64.wrap (IntKind.u64.wrap i + 9223372036854775808) = ((flip i : Nat) : Int) := by
  rw [IntKind.wrap_u64, IntKind.wrap_u64]; unfold flip; omega
theorem str_app (a b : List UInt8) : (⟨a.toArray⟩ : ByteArray) ++ ⟨b.toArray⟩ = ⟨(a ++ b).toArray⟩ := ByteArray.ext (by simp)
set_option maxHeartbeats 2000000 in
theorem refone0 (ii : Int) (rr : Nat) (tt : ByteArray) (w : World) : Calls Tryd.prog 52 #[.agg #[.int .u8 0, .int .i64 ii, .int .u64 rr, .string tt]] w fun e w' => e = .returned (.string ⟨(keyV ⟨0, ii, rr, tt⟩).toArray⟩) ∧ Below w.heap.size w w' := by
  have hcv := conv_one 1 (w.alloc (.cells #[.int .u8 0, .int .i64 ii, .int .u64 rr, .string tt] 24)) (w.heap.size + 1) (by simp)
  rw [show byteV 1 = .int .u8 1 from rfl] at hcv
  have B1 := box (((Below.refl w.heap.size w).alloc (Nat.le_refl _) (.cells #[.int .u8 0, .int .i64 ii, .int .u64 rr, .string tt] 24)).alloc (by simp) (.cells #[.int .u8 1] 5))
  have KV : Box (keyV ⟨0, ii, rr, tt⟩ = [1]) := box rfl
  go_enter Tryd.func52, Tryd.ntmps52
  go_wp2_with fail
  go_ret
  exact ⟨by rw [KV.out]; rfl, B1.out⟩
set_option maxHeartbeats 2000000 in
theorem refone1 (ii : Int) (rr : Nat) (tt : ByteArray) (hi : ii = 0 ∨ ii = 1) (w : World) : Calls Tryd.prog 52 #[.agg #[.int .u8 1, .int .i64 ii, .int .u64 rr, .string tt]] w fun e w' => e = .returned (.string ⟨(keyV ⟨1, ii, rr, tt⟩).toArray⟩) ∧ Below w.heap.size w w' := by
  rcases hi with rfl | rfl
  · have hcv := conv_one 2 (w.alloc (.cells #[.int .u8 1, .int .i64 0, .int .u64 rr, .string tt] 24)) (w.heap.size + 1) (by simp)
    rw [show byteV 2 = .int .u8 2 from rfl] at hcv
    have B1 := box (((Below.refl w.heap.size w).alloc (Nat.le_refl _) (.cells #[.int .u8 1, .int .i64 0, .int .u64 rr, .string tt] 24)).alloc (by simp) (.cells #[.int .u8 2] 5))
    have hcv2 := conv_one 0 ((w.alloc (.cells #[.int .u8 1, .int .i64 0, .int .u64 rr, .string tt] 24)).alloc (.cells #[.int .u8 2] 5)) (w.heap.size + 1 + 1) (by simp)
    rw [show byteV 0 = .int .u8 0 from rfl] at hcv2
    have B2 := box (B1.out.alloc (by simp; omega) (.cells #[.int .u8 0] 5))
    have KV : Box (keyV ⟨1, 0, rr, tt⟩ = [2, 0]) := box rfl
    go_enter Tryd.func52, Tryd.ntmps52
    go_wp2_with fail
    go_ret
    exact ⟨by rw [KV.out]; rfl, B2.out⟩
  · have hcv := conv_one 2 (w.alloc (.cells #[.int .u8 1, .int .i64 1, .int .u64 rr, .string tt] 24)) (w.heap.size + 1) (by simp)
    rw [show byteV 2 = .int .u8 2 from rfl] at hcv
    have B1 := box (((Below.refl w.heap.size w).alloc (Nat.le_refl _) (.cells #[.int .u8 1, .int .i64 1, .int .u64 rr, .string tt] 24)).alloc (by simp) (.cells #[.int .u8 2] 5))
    have hcv2 := conv_one 1 ((w.alloc (.cells #[.int .u8 1, .int .i64 1, .int .u64 rr, .string tt] 24)).alloc (.cells #[.int .u8 2] 5)) (w.heap.size + 1 + 1) (by simp)
    rw [show byteV 1 = .int .u8 1 from rfl] at hcv2
    have B2 := box (B1.out.alloc (by simp; omega) (.cells #[.int .u8 1] 5))
    have KV : Box (keyV ⟨1, 1, rr, tt⟩ = [2, 1]) := box rfl
    go_enter Tryd.func52, Tryd.ntmps52
    go_wp2_with fail
    go_ret
    exact ⟨by rw [KV.out]; rfl, B2.out⟩
set_option maxHeartbeats 2000000 in
theorem refone2 (ii : Int) (rr : Nat) (tt : ByteArray) (hi : -9223372036854775808 ≤ ii ∧ ii < 9223372036854775808) (w : World) : Calls Tryd.prog 52 #[.agg #[.int .u8 2, .int .i64 ii, .int .u64 rr, .string tt]] w fun e w' => e = .returned (.string ⟨(keyV ⟨2, ii, rr, tt⟩).toArray⟩) ∧ Below w.heap.size w w' := by
  have hcv := conv_one 3 (w.alloc (.cells #[.int .u8 2, .int .i64 ii, .int .u64 rr, .string tt] 24)) (w.heap.size + 1) (by simp)
  rw [show byteV 3 = .int .u8 3 from rfl] at hcv
  have B1 := box (((Below.refl w.heap.size w).alloc (Nat.le_refl _) (.cells #[.int .u8 2, .int .i64 ii, .int .u64 rr, .string tt] 24)).alloc (by simp) (.cells #[.int .u8 3] 5))
  have FA := flip_add ii hi
  have FL := flip_lt hi
  have KV : Box (keyV ⟨2, ii, rr, tt⟩ = [3] ++ be 8 (flip ii)) := box rfl
  obtain ⟨F, hF⟩ : ∃ F, flip ii = F := ⟨_, rfl⟩
  rw [hF] at FA FL KV
  have C := box (fun W => refhigh_any F W FL)
  clear hF hi FL
  go_enter Tryd.func52, Tryd.ntmps52
  go_wp2_with fail
  refine (C.out _).mono ?_
  rintro e w1 ⟨rfl, hb⟩
  have B2 := box (B1.out.trans (hb.mono B1.out.size))
  clear hb
  have S8 : (⟨(be 8 F).toArray⟩ : ByteArray).size = 8 := by simp [ByteArray.size, be_len]
  have AP := box (str_app [3] (be 8 F))
  obtain ⟨Z, hZ⟩ : ∃ Z : ByteArray, (⟨(be 8 F).toArray⟩ : ByteArray) = Z := ⟨_, rfl⟩
  rw [hZ] at S8 AP
  rw [hZ]
  clear hZ
  go_wp2_with fail
  go_ret
  exact ⟨by rw [KV.out, ← AP.out]; rfl, B2.out⟩
set_option maxHeartbeats 2000000 in
theorem refone3 (ii : Int) (rr : Nat) (tt : ByteArray) (hr : rr < 18446744073709551616) (w : World) : Calls Tryd.prog 52 #[.agg #[.int .u8 3, .int .i64 ii, .int .u64 rr, .string tt]] w fun e w' => e = .returned (.string ⟨(keyV ⟨3, ii, rr, tt⟩).toArray⟩) ∧ Below w.heap.size w w' := by
  have hcv := conv_one 4 (w.alloc (.cells #[.int .u8 3, .int .i64 ii, .int .u64 rr, .string tt] 24)) (w.heap.size + 1) (by simp)
  rw [show byteV 4 = .int .u8 4 from rfl] at hcv
  have B1 := box (((Below.refl w.heap.size w).alloc (Nat.le_refl _) (.cells #[.int .u8 3, .int .i64 ii, .int .u64 rr, .string tt] 24)).alloc (by simp) (.cells #[.int .u8 4] 5))
  have C69 := box (fun W => refkey_any rr W hr)
  have FL := Rl.keyOf_lt (Rl.canon_lt hr)
  have KV : Box (keyV ⟨3, ii, rr, tt⟩ = [4] ++ be 8 (Rl.key rr)) := box rfl
  obtain ⟨F, hF⟩ : ∃ F, Rl.key rr = F := ⟨_, rfl⟩
  have FL2 : F < 18446744073709551616 := by rw [← hF]; exact FL
  rw [hF] at C69 KV
  have C := box (fun W => refhigh_any F W FL2)
  clear hF hr FL FL2
  go_enter Tryd.func52, Tryd.ntmps52
  go_wp2_with fail
  refine (C69.out _).mono ?_
  rintro e wq ⟨rfl, rfl⟩
  go_wp2_with fail
  refine (C.out _).mono ?_
  rintro e w1 ⟨rfl, hb⟩
  have B2 := box (B1.out.trans (hb.mono B1.out.size))
  clear hb
  have S8 : (⟨(be 8 F).toArray⟩ : ByteArray).size = 8 := by simp [ByteArray.size, be_len]
  have AP := box (str_app [4] (be 8 F))
  obtain ⟨Z, hZ⟩ : ∃ Z : ByteArray, (⟨(be 8 F).toArray⟩ : ByteArray) = Z := ⟨_, rfl⟩
  rw [hZ] at S8 AP
  rw [hZ]
  clear hZ
  go_wp2_with fail
  go_ret
  exact ⟨by rw [KV.out, ← AP.out]; rfl, B2.out⟩
set_option maxHeartbeats 2000000 in
theorem refone4 (ii : Int) (rr : Nat) (tt : ByteArray) (ht : tt.size ≤ 65536) (w : World) : Calls Tryd.prog 52 #[.agg #[.int .u8 4, .int .i64 ii, .int .u64 rr, .string tt]] w fun e w' => e = .returned (.string ⟨(keyV ⟨4, ii, rr, tt⟩).toArray⟩) ∧ Below w.heap.size w w' := by
  have hcv := conv_one 5 (w.alloc (.cells #[.int .u8 4, .int .i64 ii, .int .u64 rr, .string tt] 24)) (w.heap.size + 1) (by simp)
  rw [show byteV 5 = .int .u8 5 from rfl] at hcv
  have B1 := box (((Below.refl w.heap.size w).alloc (Nat.le_refl _) (.cells #[.int .u8 4, .int .i64 ii, .int .u64 rr, .string tt] 24)).alloc (by simp) (.cells #[.int .u8 5] 5))
  have C70 := box (fun W => reftext_any tt W ht)
  have KV : Box (keyV ⟨4, ii, rr, tt⟩ = [5] ++ (Kl.esc tt.data.toList ++ [0, 1])) := box rfl
  have EL := (Kl.esc_len tt.data.toList).2
  have EL2 : tt.data.toList.length = tt.size := rfl
  obtain ⟨F, hF⟩ : ∃ F, Kl.esc tt.data.toList ++ [0, 1] = F := ⟨_, rfl⟩
  have FS : F.length ≤ 200000 := by rw [← hF]; simp only [List.length_append, List.length_cons, List.length_nil]; omega
  rw [hF] at C70 KV
  have SZ : (⟨F.toArray⟩ : ByteArray).size = F.length := by simp [ByteArray.size]
  have AP := box (str_app [5] F)
  obtain ⟨Z, hZ⟩ : ∃ Z : ByteArray, (⟨F.toArray⟩ : ByteArray) = Z := ⟨_, rfl⟩
  rw [hZ] at SZ AP C70
  have SZ2 : (Z.size : Int) ≤ 200000 := by omega
  clear hZ hF ht EL EL2 FS SZ
  go_enter Tryd.func52, Tryd.ntmps52
  go_wp2_with fail
  refine (C70.out _).mono ?_
  rintro e w1 ⟨rfl, hb⟩
  have B2 := box (B1.out.trans (hb.mono B1.out.size))
  clear hb
  go_wp2_with fail
  go_ret
  exact ⟨by rw [KV.out, ← AP.out]; rfl, B2.out⟩
set_option maxHeartbeats 2000000 in
theorem refone5 (ii : Int) (rr : Nat) (tt : ByteArray) (ht : tt.size ≤ 65536) (w : World) : Calls Tryd.prog 52 #[.agg #[.int .u8 5, .int .i64 ii, .int .u64 rr, .string tt]] w fun e w' => e = .returned (.string ⟨(keyV ⟨5, ii, rr, tt⟩).toArray⟩) ∧ Below w.heap.size w w' := by
  have hcv := conv_one 6 (w.alloc (.cells #[.int .u8 5, .int .i64 ii, .int .u64 rr, .string tt] 24)) (w.heap.size + 1) (by simp)
  rw [show byteV 6 = .int .u8 6 from rfl] at hcv
  have B1 := box (((Below.refl w.heap.size w).alloc (Nat.le_refl _) (.cells #[.int .u8 5, .int .i64 ii, .int .u64 rr, .string tt] 24)).alloc (by simp) (.cells #[.int .u8 6] 5))
  have C70 := box (fun W => reftext_any tt W ht)
  have KV : Box (keyV ⟨5, ii, rr, tt⟩ = [6] ++ (Kl.esc tt.data.toList ++ [0, 1])) := box rfl
  have EL := (Kl.esc_len tt.data.toList).2
  have EL2 : tt.data.toList.length = tt.size := rfl
  obtain ⟨F, hF⟩ : ∃ F, Kl.esc tt.data.toList ++ [0, 1] = F := ⟨_, rfl⟩
  have FS : F.length ≤ 200000 := by rw [← hF]; simp only [List.length_append, List.length_cons, List.length_nil]; omega
  rw [hF] at C70 KV
  have SZ : (⟨F.toArray⟩ : ByteArray).size = F.length := by simp [ByteArray.size]
  have AP := box (str_app [6] F)
  obtain ⟨Z, hZ⟩ : ∃ Z : ByteArray, (⟨F.toArray⟩ : ByteArray) = Z := ⟨_, rfl⟩
  rw [hZ] at SZ AP C70
  have SZ2 : (Z.size : Int) ≤ 200000 := by omega
  clear hZ hF ht EL EL2 FS SZ
  go_enter Tryd.func52, Tryd.ntmps52
  go_wp2_with fail
  refine (C70.out _).mono ?_
  rintro e w1 ⟨rfl, hb⟩
  have B2 := box (B1.out.trans (hb.mono B1.out.size))
  clear hb
  go_wp2_with fail
  go_ret
  exact ⟨by rw [KV.out, ← AP.out]; rfl, B2.out⟩
theorem refone_any (x : Val) (hm : x.may = true) (ho : x.Ok) (w : World) : Calls Tryd.prog 52 #[x.v] w fun e w' => e = .returned (.string ⟨(keyV x).toArray⟩) ∧ Below w.heap.size w w' := by
  have K := may_kind hm
  rcases (show x.kind = 0 ∨ x.kind = 1 ∨ x.kind = 2 ∨ x.kind = 3 ∨ x.kind = 4 ∨ x.kind = 5 by omega) with K | K | K | K | K | K
  · obtain ⟨kk, ii, rr, tt⟩ := x
    dsimp only at K; subst K
    exact refone0 ii rr tt w
  · have h := (may1_of K hm).1
    obtain ⟨kk, ii, rr, tt⟩ := x
    dsimp only at K h; subst K
    exact refone1 ii rr tt h w
  · have h := ho.int
    obtain ⟨kk, ii, rr, tt⟩ := x
    dsimp only at K h; subst K
    exact refone2 ii rr tt h w
  · have h := ho.real
    obtain ⟨kk, ii, rr, tt⟩ := x
    dsimp only at K h; subst K
    exact refone3 ii rr tt h w
  · have h := (may45_of (.inl K) hm).2.2
    obtain ⟨kk, ii, rr, tt⟩ := x
    dsimp only at K h; subst K
    exact refone4 ii rr tt (by omega) w
  · have h := (may45_of (.inr K) hm).2.2
    obtain ⟨kk, ii, rr, tt⟩ := x
    dsimp only at K h; subst K
    exact refone5 ii rr tt (by omega) w
theorem keyS_size (l : List UInt8) : (⟨l.toArray⟩ : ByteArray).size = l.length := by simp [ByteArray.size]
set_option maxHeartbeats 4000000 in
theorem refput_any (a : Option Addr) (n c : Nat) (xs : List Val) (w : World) (hr : Vals w a n xs) (hg : Good xs) :
    Calls Tryd.prog 35 #[.slice a n c] w fun e w' => e = .returned (.string ⟨(keyL xs).toArray⟩) ∧ Below w.heap.size w w' := by
  have h24 := size24
  have HR := box hr
  have HG := box hg.each
  have hn8 : n ≤ 8 := by have := hg.len; rw [hr.1] at this; exact this
  clear hr hg
  go_enter Tryd.func35, Tryd.ntmps35
  go_wp2_with fail
  go_loopw [3, 4] (fun r i wr => ∃ k : Nat, i = .int .i64 k ∧ k ≤ n ∧ r = .string ⟨(keyL (xs.take k)).toArray⟩ ∧ Below w.heap.size w wr) (fun _ i _ => n - (intOf i).toNat)
  case atStart => exact ⟨0, rfl, Nat.zero_le _, rfl, Below.refl _ _⟩
  case round =>
    obtain ⟨k, rfl, hk, rfl, hb⟩ := hrel
    have B := box hb
    clear hb
    by_cases hin : k < n
    · have hl : k < xs.length := by rw [HR.out.1]; exact hin
      obtain ⟨tb, tf, rfl, htb, htc⟩ := HR.out.2.2.2 (by omega)
      obtain ⟨x, hx⟩ : ∃ x, xs.getD k Val.zero = x := ⟨_, rfl⟩
      have hmem : x ∈ xs := by rw [← hx]; simp [hl]
      have C52 := box (fun W => refone_any x (HG.out x hmem).1 (HG.out x hmem).2 W)
      have hc0 := (B.out.cell (p := ⟨tb, tf + k * 4 + 0, none⟩) htb).trans (htc k hin 0 _ (by rw [hx]; rfl))
      have hc1 := (B.out.cell (p := ⟨tb, tf + k * 4 + 1, none⟩) htb).trans (htc k hin 1 _ (by rw [hx]; rfl))
      have hc2 := (B.out.cell (p := ⟨tb, tf + k * 4 + 2, none⟩) htb).trans (htc k hin 2 _ (by rw [hx]; rfl))
      have hc3 := (B.out.cell (p := ⟨tb, tf + k * 4 + 3, none⟩) htb).trans (htc k hin 3 _ (by rw [hx]; rfl))
      rw [Nat.add_zero] at hc0
      have TK := box (keyL_take xs k hl)
      rw [hx] at TK
      have s1 := keyS_size (keyL (xs.take k))
      have LB : (keyL (xs.take k)).length ≤ 1624 := by
        have h1 := keyL_len (goods_take HG.out k)
        have h2 := List.length_take_le k xs
        omega
      have s2 := keyS_size (keyV x)
      have LV := keyV_len (HG.out x hmem).1
      have AP := box (str_app (keyL (xs.take k)) (keyV x))
      obtain ⟨Z1, hZ1⟩ : ∃ Z : ByteArray, (⟨(keyL (xs.take k)).toArray⟩ : ByteArray) = Z := ⟨_, rfl⟩
      obtain ⟨Z2, hZ2⟩ : ∃ Z : ByteArray, (⟨(keyV x).toArray⟩ : ByteArray) = Z := ⟨_, rfl⟩
      rw [hZ1] at s1 AP ⊢
      rw [hZ2] at s2 AP C52
      have z1 : (Z1.size : Int) ≤ 1624 := by omega
      have z2 : (Z2.size : Int) ≤ 203 := by omega
      clear hx hmem htc hZ1 hZ2 s1 s2 LB LV
      obtain ⟨kk, ii, rr, tt⟩ := x
      unfold Val.v at C52
      dsimp only at C52 hc0 hc1 hc2 hc3
      go_wp2_with fail
      refine (C52.out _).mono ?_
      rintro e w1 ⟨rfl, hb1⟩
      have B1 := box (Below.grown B.out (Only.below hb1 none) B.out.size (by simp))
      clear hb1 hc0 hc1 hc2 hc3
      go_wp2_with fail
      go_roundw
      case rel => exact ⟨k + 1, by go_num, hin, by rw [TK.out, ← AP.out], B1.out⟩
      case measure => simp [intOf]; omega
    · obtain rfl : k = n := by omega
      have hL : xs.take k = xs := List.take_of_length_le (by rw [HR.out.1]; omega)
      rw [hL]
      clear hL
      go_wp2_with fail
      go_ret
      exact ⟨rfl, B.out⟩
theorem refmay_any (a : Option Addr) (n c : Nat) (xs : List Val) (w : World) (hr : Vals w a n xs) (hT : Tabs w) :
    Calls Tryd.prog 34 #[.slice a n c] w fun e w' => e = .returned (.bool (goodB xs)) ∧ Below w.heap.size w w' := by
  have hl := hr.1
  rcases Nat.eq_zero_or_pos n with h0 | h0
  · subst h0
    obtain rfl : xs = [] := List.eq_nil_of_length_eq_zero hl
    go_enter Tryd.func34, Tryd.ntmps34
    go_wp2_with fail
    go_ret
    exact ⟨rfl, Below.refl _ _⟩
  · have C := box (refrow_any a n c xs w hr hT)
    have hg : goodB xs = rowMay xs := by
      unfold goodB
      have : xs.isEmpty = false := by
        cases xs with
        | nil => simp at hl; omega
        | cons _ _ => rfl
      rw [this]; rfl
    rw [hg]
    obtain ⟨A, hA⟩ : ∃ A, rowMay xs = A := ⟨_, rfl⟩
    rw [hA] at C ⊢
    have hn0 : ((n : Int) == 0) = false := by simp; omega
    clear hA hg hr hT hl
    go_enter Tryd.func34, Tryd.ntmps34
    go_wp2_with fail
    refine C.out.mono ?_
    rintro e w1 ⟨rfl, hb⟩
    have B := box hb
    clear hb
    go_wp2_with fail
    go_ret
    exact ⟨rfl, B.out⟩
end Go.Proofs.YtafialodjnjihaaDoor
