/- key.Put: a row's key, or that it has none. Conditions: utf8's two tables read as the program lays them; MaxLen's cell holds a number. -/
import Derived.Test.YtafialodjnjihaaDoorKeyRow
import Derived.Lib.AppendStr
namespace Go.Proofs.YtafialodjnjihaaDoor
open Go Go.RowKit Go.BigFrame
set_option maxRecDepth 100000
set_option linter.unusedVariables false

theorem xor_top_lt (x : Nat) (h : x < 9223372036854775808) : x ^^^ 9223372036854775808 = 9223372036854775808 + x := by
  have e : (9223372036854775808 : Nat) = 2 ^ 63 := rfl
  rw [e] at h ⊢
  apply Nat.eq_of_testBit_eq
  intro j
  rw [Nat.testBit_xor, Nat.testBit_two_pow]
  rcases Nat.lt_trichotomy j 63 with hj | hj | hj
  · rw [Nat.testBit_two_pow_add_gt hj]
    have : ¬ 63 = j := by omega
    simp [this]
  · subst hj; rw [Nat.testBit_two_pow_add_eq]; simp
  · have h1 : x.testBit j = false := Nat.testBit_lt_two_pow (Nat.lt_of_lt_of_le h (Nat.pow_le_pow_right (by omega) (by omega)))
    have h2 : (2 ^ 63 + x).testBit j = false := Nat.testBit_lt_two_pow (Nat.lt_of_lt_of_le (show 2 ^ 63 + x < 2 ^ 64 by omega) (Nat.pow_le_pow_right (by omega) (by omega)))
    have : ¬ 63 = j := by omega
    rw [h1, h2]; simp [this]
theorem xor_top_ge (x : Nat) (h : 9223372036854775808 ≤ x) (h2 : x < 18446744073709551616) : x ^^^ 9223372036854775808 = x - 9223372036854775808 := by
  have h3 := xor_top_lt (x - 9223372036854775808) (by omega)
  rw [show 9223372036854775808 + (x - 9223372036854775808) = x by omega] at h3
  rw [← h3, Nat.xor_assoc, Nat.xor_self, Nat.xor_zero, h3]
theorem flip_bits (i : Int) (h : -9223372036854775808 ≤ i ∧ i < 9223372036854775808) : bits BinOp.xor IntKind.u64 (IntKind.u64.wrap i) 9223372036854775808 = ((flip i : Nat) : Int) := by
  rw [IntKind.wrap_u64]
  obtain ⟨v, hv⟩ : ∃ v : Nat, i % 18446744073709551616 = v := ⟨(i % 18446744073709551616).toNat, by omega⟩
  have hlt : v < 18446744073709551616 := by omega
  rw [hv]
  have e := xor_u64 v 9223372036854775808 hlt (by decide)
  refine Eq.trans e ?_
  congr 1
  unfold flip
  rcases Nat.lt_or_ge v 9223372036854775808 with h1 | h1
  · rw [xor_top_lt v h1]; omega
  · rw [xor_top_ge v h1 hlt]; omega

/-- Two elements and more appended to a row of the call's own. -/
theorem append_some {P : Program} (w : World) {W : World} {ops : Array Oper} {rest : List Oper} {o : Oper} {a : Act} {Q : Exit → Act → World → Prop} (hgd : o.guard = none) (s x : Operand) (t : TypeId)
    (ho : o.op = .call { callee := .builtin .append, args := #[s, x], argTypes := #[t, t] })
    (base : Nat) (e : TypeId) (i : TypeInfo) (z : Value) (bytes : Nat) (ht : P.underlying t = some (.slice e)) (hi : P.info? e = some i) (hz : i.zero = some z)
    (hsize : i.size = 1) (hby : i.bytes = bytes) (hzs : z.cells.size = 1)
    (v : Value) (n m : Nat) (xs : List Value) (hs : a.eval s = v) (hown : w.ownsRow base e 1 v n xs)
    (us : List Value) (G : Nat) (hx : a.eval x = .slice (some ⟨G, 0, none⟩) m m) (hG : w.heap.size = G) (hl : us.length = m) (h1 : ∀ u ∈ us, u.oneCell' = true)
    (h63 : n + m ≤ maxLen) (hbytes : (n + m) * bytes ≤ 140737488355328) (hbase : base ≤ w.heap.size)
    (h : ∀ v' w', w'.ownsRow base e 1 v' (n + m) (xs ++ us) → Below base w w' → w.grownBy w' v.ownBlock → wpList P ops Q rest (a.put o.dst v') w') (hW : W = w.alloc (.cells us.toArray e)) : wpList P ops Q (o :: rest) a W := by
  subst hW hG
  refine wpList_append_own _ hgd s x t ho base e i z 1 bytes ht hi hz hsize hby hzs (by decide) v n xs hs (hown.alloc _) ⟨w.heap.size, 0, none⟩ m m us hx (by simpa using hl) ?_ h1 h63 hbytes (by simp; omega) ?_
  · intro j u hj
    have e0 : (⟨w.heap.size, 0, none⟩ : Addr).add j = ⟨w.heap.size, j, none⟩ := by unfold Addr.add; split <;> simp_all
    rw [e0]
    have h2 : Whole1 (w.alloc (.cells us.toArray e)) w.heap.size e us.toArray := Whole1.made w e us.toArray
    rw [h2.cell j]
    simpa using hj
  · intro v' w' h2 h3 _
    refine h v' w' h2 ?_ ?_
    · exact Below.grown (Below.alloc (Below.refl _ _) hbase _) h3 (by simp; omega) (own_ge hown)
    · have h4 : w.grownBy (w.alloc (.cells us.toArray e)) v.ownBlock := Only.alloc (World.grownBy.refl _ _) _
      exact ⟨h3.os.trans h4.os, h3.tape.trans h4.tape, h3.output.trans h4.output, Nat.le_trans h4.size h3.size, fun k hk hne => (h3.block k (Nat.lt_of_lt_of_le hk h4.size) hne).trans (h4.block k hk hne)⟩
/-- as grown6, of many bytes -/
theorem grown6s {base : Nat} {w wr w1 : World} {v v1 : Value} {l m : List UInt8} {n : Nat} (h : Bytes6 base w wr v l) (hn : n = l.length + m.length) {zs : List Value} (ho : w1.ownsRow base 5 1 v1 n (l.map byteV ++ zs)) (hz : zs = m.map byteV) (hb : Below base wr w1) (hg : wr.grownBy w1 v.ownBlock) : Bytes6 base w w1 v1 (l ++ m) := by
  subst hz hn
  refine ⟨by simpa using ho, h.below.trans hb, fun g cs hc => ?_⟩
  have h1 := h.kept g cs hc
  exact h1.grown hg (fun e => own_ne h.own h1 (by decide) e.symm)
theorem Bytes6.trans {base : Nat} {w wr w1 : World} {v v1 : Value} {l m : List UInt8} (h : Bytes6 base w wr v l) (h2 : Bytes6 base wr w1 v1 m) : Bytes6 base w w1 v1 m :=
  ⟨h2.own, h.below.trans h2.below, fun g cs hc => h2.kept g cs (h.kept g cs hc)⟩
theorem Bytes6.call {base : Nat} {w wr w1 : World} {v : Value} {l : List UInt8} (h : Bytes6 base w wr v l) (h2 : Below wr.heap.size wr w1) (hb : base ≤ w.heap.size) : Bytes6 base w w1 v l :=
  ⟨own_kept h.own (Only.below h2 none) (by
    rcases h.own.2 with ⟨rfl, _⟩ | ⟨g, cap, cur, rfl, _⟩
    · exact .inl rfl
    · exact .inr (by simp [Value.ownBlock])), h.below.trans (h2.mono (Nat.le_trans hb h.below.size)), fun g cs hc => (h.kept g cs hc).below h2 (h.kept g cs hc).lt⟩
theorem Bytes6.alloc {base : Nat} {w wr : World} {v : Value} {l : List UInt8} (h : Bytes6 base w wr v l) (o : Obj) (hb : base ≤ w.heap.size) : Bytes6 base w (wr.alloc o) v l :=
  h.call ((Below.refl _ _).alloc (Nat.le_refl _) _) hb
theorem keyV_len {x : Val} (h : x.may = true) : (keyV x).length ≤ 203 := by
  unfold keyV tailV
  rw [List.length_cons]
  split
  · simp
  · split
    · rw [be_len]; omega
    · split
      · rw [be_len]; omega
      · split
        · rename_i K
          have a := (may45_of K h).2.2
          have b := (Kl.esc_len x.text.data.toList).2
          have c : x.text.data.toList.length = x.text.size := rfl
          simp only [List.length_append, List.length_cons, List.length_nil]
          omega
        · simp
theorem keyL_len {l : List Val} (h : Goods l) : (keyL l).length ≤ 203 * l.length := by
  induction l with
  | nil => simp [keyL_nil]
  | cons x l ih =>
    rw [keyL_cons, List.length_append, List.length_cons]
    have a := keyV_len (h x List.mem_cons_self).1
    have b := ih (goods_tail h)
    omega
theorem keyL_take (xs : List Val) (k : Nat) (h : k < xs.length) : keyL (xs.take (k + 1)) = keyL (xs.take k) ++ keyV (xs.getD k Val.zero) := by
  rw [List.take_add_one, keyL_app]
  simp [h, keyL]
theorem goods_take {xs : List Val} (h : Goods xs) (k : Nat) : Goods (xs.take k) := fun x hx => h x (List.mem_of_mem_take hx)
theorem addr_add00 (g j : Nat) : (⟨g, 0, none⟩ : Addr).add j = ⟨g, j, none⟩ := by
  unfold Addr.add; split <;> simp_all

theorem Bytes6.start {base : Nat} {wr : World} {v : Value} {l : List UInt8} (h : wr.ownsRow base 5 1 v l.length (l.map byteV)) (o : Obj) : Bytes6 base (wr.alloc o) (wr.alloc o) v l :=
  ⟨h.alloc _, Below.refl _ _, fun _ _ h => h⟩
theorem esc_any (t : ByteArray) (w : World) (ht : t.size ≤ 100) (hT : Tabs6 w) :
    Calls Tryd.prog 51 #[.string t, .string ⟨#[0]⟩, .string ⟨#[0, 255]⟩] w fun e w' => e = .returned (.string ⟨(Kl.esc t.data.toList).toArray⟩) ∧ Below w.heap.size w w' := by
  obtain ⟨m, hm⟩ := hT.len
  have h := replaceAll_any t ⟨#[0]⟩ ⟨#[0, 255]⟩ m w (by omega) hm (by decide) (by
    have h1 := Lib.count_le t.data.toList [0]
    have h2 : t.data.toList.length = t.size := rfl
    show t.size + Lib.count t.data.toList [0] * 2 ≤ _
    omega)
  rw [show (⟨#[0]⟩ : ByteArray).data.toList = [0] from rfl, show (⟨#[0, 255]⟩ : ByteArray).data.toList = [0, 255] from rfl, Kl.replaceAll_esc] at h
  exact h
theorem esc_size (l : List UInt8) : (⟨(Kl.esc l).toArray⟩ : ByteArray).size = (Kl.esc l).length := by simp [ByteArray.size]
theorem strCells_bytes (l : List UInt8) : Lib.strCells ⟨l.toArray⟩ = l.map byteV := by simp [Lib.strCells, byteV]

set_option maxHeartbeats 40000000 in
theorem put_some (a : Option Addr) (n c : Nat) (xs : List Val) (w : World) (hr : Vals w a n xs) (hT : Tabs6 w) (hg : Good xs) (h0 : 0 < n) :
    Calls Tryd.prog 33 #[.slice a n c] w fun e w' => e = .returned (.tuple #[.string ⟨(keyL xs).toArray⟩, .int .i64 0]) ∧ Below w.heap.size w w' := by
  obtain ⟨i0, hi, hz0, hz1, hz2⟩ := info_parts infoB
  have h24 := size24
  have HR := box hr
  have HT := box hT
  have HG := box hg.each
  have hn8 : n ≤ 8 := by have := hg.len; rw [hr.1] at this; exact this
  have hE : rowErr xs = 0 := by
    rcases hg.row with h | h
    · have := hr.1; rw [h] at this; simp at this; omega
    · unfold rowErr; rw [if_pos h]
  have C16 := box (row_any a n c xs w hr hT.tabs)
  rw [hE] at C16
  have t0 : (0 : Int) < (n : Int) := by omega
  clear hr hT hg hE
  go_enter Tryd.func33, Tryd.ntmps33
  go_wp2_with fail
  refine C16.out.mono ?_
  rintro e w1 ⟨rfl, hb1⟩
  have B1 := box hb1
  clear hb1
  go_wp2_with fail
  go_loopw [4, 17] (fun r i wr => ∃ k : Nat, i = .int .i64 k ∧ k ≤ n ∧ Bytes6 w.heap.size w wr r (keyL (xs.take k))) (fun _ i _ => n - (intOf i).toNat)
  case atStart => exact ⟨0, rfl, Nat.zero_le _, World.ownsRow_nil _ _ _ _, B1.out, fun _ _ h => h.below B1.out h.lt⟩
  case round =>
    obtain ⟨k, rfl, hk, hB⟩ := hrel
    have BX := box hB
    have hsz := hB.below.size
    clear hB
    by_cases hin : k < n
    · have hl : k < xs.length := by rw [HR.out.1]; exact hin
      obtain ⟨tb, tf, rfl, htb, htc⟩ := HR.out.2.2.2 (by omega)
      obtain ⟨x, hx⟩ : ∃ x, xs.getD k Val.zero = x := ⟨_, rfl⟩
      have hmem : x ∈ xs := by rw [← hx]; simp [hl]
      have hmay := (HG.out x hmem).1
      have hok := (HG.out x hmem).2
      have hc0 := (BX.out.below.cell (p := ⟨tb, tf + k * 4 + 0, none⟩) htb).trans (htc k hin 0 _ (by rw [hx]; rfl))
      have hc1 := (BX.out.below.cell (p := ⟨tb, tf + k * 4 + 1, none⟩) htb).trans (htc k hin 1 _ (by rw [hx]; rfl))
      have hc2 := (BX.out.below.cell (p := ⟨tb, tf + k * 4 + 2, none⟩) htb).trans (htc k hin 2 _ (by rw [hx]; rfl))
      have hc3 := (BX.out.below.cell (p := ⟨tb, tf + k * 4 + 3, none⟩) htb).trans (htc k hin 3 _ (by rw [hx]; rfl))
      rw [Nat.add_zero] at hc0
      have TK := box (keyL_take xs k hl)
      rw [hx] at TK
      have LB : (keyL (xs.take k)).length ≤ 1624 := by
        have h1 := keyL_len (goods_take HG.out k)
        have h2 := List.length_take_le k xs
        omega
      obtain ⟨L, hL⟩ : ∃ L, keyL (xs.take k) = L := ⟨_, rfl⟩
      rw [hL] at BX TK LB
      have KC := may_kind hmay
      clear hx hmem htc hL hl
      rcases (show x.kind = 0 ∨ x.kind = 1 ∨ x.kind = 2 ∨ x.kind = 3 ∨ x.kind = 4 ∨ x.kind = 5 by omega) with K | K | K | K | K | K
      · have KV : Box (keyV x = [1]) := box (by unfold keyV tailV; rw [K]; rfl)
        clear hmay hok KC
        obtain ⟨kk, ii, rr, tt⟩ := x
        dsimp only at *
        subst K
        have hk0 : wr.cell? ⟨tb, tf + k * 4, none⟩ = some (.int .u8 0) := hc0
        clear hc0
        have W0 := box (Bytes6.start BX.out.own (.cells #[.int .u8 0, .int .i64 ii, .int .u64 rr, .string tt] 24))
        go_wp2_with (at_builtin; refine append_some (wr.alloc (.cells #[.int .u8 0, .int .i64 ii, .int .u64 rr, .string tt] 24)) rfl (.tmp 21) (.tmp 25) 60 rfl w.heap.size 5 i0 (.int .u8 0) 1 Tryd.underlying60 hi hz0 hz1 hz2 rfl _ _ 1 _ rfl W0.out.own [.int .u8 1] (wr.heap.size + 1) rfl (by simp) rfl ?c2 ?c3 ?c4 ?c5 ?_ ?c6)
        case c2 => intro u hu; simp at hu; subst hu; rfl
        case c3 => unfold maxLen; omega
        case c4 => omega
        case c5 => simp; omega
        case c6 => rfl
        intro v1 w1 hown1 hbel1 hg1
        have N1 := box (grown6 W0.out hown1 hbel1 hg1 (by simp; omega) 1 rfl)
        have P1 := box (N1.out.kept _ _ (Whole1.made wr 24 #[.int .u8 0, .int .i64 ii, .int .u64 rr, .string tt]))
        have p0 : w1.cell? ⟨wr.heap.size, 0, none⟩ = some (.int .u8 0) := P1.out.cell 0
        have p1 : w1.cell? ⟨wr.heap.size, 1, none⟩ = some (.int .i64 ii) := P1.out.cell 1
        have p2 : w1.cell? ⟨wr.heap.size, 2, none⟩ = some (.int .u64 rr) := P1.out.cell 2
        have p3 : w1.cell? ⟨wr.heap.size, 3, none⟩ = some (.string tt) := P1.out.cell 3
        have S1 := N1.out.below.size
        have S0 : w.heap.size ≤ (wr.alloc (.cells #[.int .u8 0, .int .i64 ii, .int .u64 rr, .string tt] 24)).heap.size := by simp; omega
        clear hown1 hbel1 hg1
        go_wp2_with fail
        go_roundw
        case rel =>
          refine ⟨k + 1, by go_num, hin, ?_⟩
          rw [TK.out, KV.out]
          exact (BX.out.alloc (.cells #[.int .u8 0, .int .i64 ii, .int .u64 rr, .string tt] 24) (Nat.le_refl _)).trans N1.out
        case measure => simp [intOf]; omega
      · have KV : Box (keyV x = [2] ++ [UInt8.ofNat x.int.toNat]) := box (by unfold keyV tailV; rw [K]; rfl)
        have ax := (may1_of K hmay).1
        clear hmay hok KC
        obtain ⟨kk, ii, rr, tt⟩ := x
        dsimp only at *
        subst K
        have hk0 : wr.cell? ⟨tb, tf + k * 4, none⟩ = some (.int .u8 1) := hc0
        clear hc0
        rcases ax with rfl | rfl
        · have W0 := box (Bytes6.start BX.out.own (.cells #[.int .u8 1, .int .i64 0, .int .u64 rr, .string tt] 24))
          go_wp2_with (at_builtin; refine append_some (wr.alloc (.cells #[.int .u8 1, .int .i64 0, .int .u64 rr, .string tt] 24)) rfl (.tmp 21) (.tmp 25) 60 rfl w.heap.size 5 i0 (.int .u8 0) 1 Tryd.underlying60 hi hz0 hz1 hz2 rfl _ _ 1 _ rfl W0.out.own [.int .u8 2] (wr.heap.size + 1) rfl (by simp) rfl ?c2 ?c3 ?c4 ?c5 ?_ ?c6)
          case c2 => intro u hu; simp at hu; subst hu; rfl
          case c3 => unfold maxLen; omega
          case c4 => omega
          case c5 => simp; omega
          case c6 => rfl
          intro v1 w1 hown1 hbel1 hg1
          have N1 := box (grown6 W0.out hown1 hbel1 hg1 (by simp; omega) 2 rfl)
          have P1 := box (N1.out.kept _ _ (Whole1.made wr 24 #[.int .u8 1, .int .i64 0, .int .u64 rr, .string tt]))
          have p0 : w1.cell? ⟨wr.heap.size, 0, none⟩ = some (.int .u8 1) := P1.out.cell 0
          have p1 : w1.cell? ⟨wr.heap.size, 1, none⟩ = some (.int .i64 0) := P1.out.cell 1
          have p2 : w1.cell? ⟨wr.heap.size, 2, none⟩ = some (.int .u64 rr) := P1.out.cell 2
          have p3 : w1.cell? ⟨wr.heap.size, 3, none⟩ = some (.string tt) := P1.out.cell 3
          have S1 := N1.out.below.size
          have S0 : w.heap.size ≤ (wr.alloc (.cells #[.int .u8 1, .int .i64 0, .int .u64 rr, .string tt] 24)).heap.size := by simp; omega
          clear hown1 hbel1 hg1
          go_wp2_with (at_builtin; refine append_one w1 rfl (.tmp 31) (.tmp 35) 60 rfl w.heap.size 5 i0 (.int .u8 0) 1 1 Tryd.underlying60 hi hz0 hz1 hz2 rfl (by decide) _ _ _ rfl N1.out.own [.int .u8 0] rfl rfl ?d2 ?d3 ?d4 ?d5 ?_ ?d6)
          case d2 => intro u hu; simp at hu; subst hu; rfl
          case d3 => unfold maxLen; simp; omega
          case d4 => simp; omega
          case d5 => omega
          case d6 => rfl
          intro v2 w2 hown2 hbel2 hg2
          have N2 := box (grown6 N1.out (by simpa [byteV] using hown2) hbel2 hg2 (by omega) 0 rfl)
          clear hown2 hbel2 hg2 p0 p1 p2 p3
          go_wp2_with fail
          go_roundw
          case rel =>
            refine ⟨k + 1, by go_num, hin, ?_⟩
            rw [TK.out, KV.out]
            rw [← List.append_assoc]
            exact (BX.out.alloc (.cells #[.int .u8 1, .int .i64 0, .int .u64 rr, .string tt] 24) (Nat.le_refl _)).trans N2.out
          case measure => simp [intOf]; omega
        · have W0 := box (Bytes6.start BX.out.own (.cells #[.int .u8 1, .int .i64 1, .int .u64 rr, .string tt] 24))
          go_wp2_with (at_builtin; refine append_some (wr.alloc (.cells #[.int .u8 1, .int .i64 1, .int .u64 rr, .string tt] 24)) rfl (.tmp 21) (.tmp 25) 60 rfl w.heap.size 5 i0 (.int .u8 0) 1 Tryd.underlying60 hi hz0 hz1 hz2 rfl _ _ 1 _ rfl W0.out.own [.int .u8 2] (wr.heap.size + 1) rfl (by simp) rfl ?c2 ?c3 ?c4 ?c5 ?_ ?c6)
          case c2 => intro u hu; simp at hu; subst hu; rfl
          case c3 => unfold maxLen; omega
          case c4 => omega
          case c5 => simp; omega
          case c6 => rfl
          intro v1 w1 hown1 hbel1 hg1
          have N1 := box (grown6 W0.out hown1 hbel1 hg1 (by simp; omega) 2 rfl)
          have P1 := box (N1.out.kept _ _ (Whole1.made wr 24 #[.int .u8 1, .int .i64 1, .int .u64 rr, .string tt]))
          have p0 : w1.cell? ⟨wr.heap.size, 0, none⟩ = some (.int .u8 1) := P1.out.cell 0
          have p1 : w1.cell? ⟨wr.heap.size, 1, none⟩ = some (.int .i64 1) := P1.out.cell 1
          have p2 : w1.cell? ⟨wr.heap.size, 2, none⟩ = some (.int .u64 rr) := P1.out.cell 2
          have p3 : w1.cell? ⟨wr.heap.size, 3, none⟩ = some (.string tt) := P1.out.cell 3
          have S1 := N1.out.below.size
          have S0 : w.heap.size ≤ (wr.alloc (.cells #[.int .u8 1, .int .i64 1, .int .u64 rr, .string tt] 24)).heap.size := by simp; omega
          clear hown1 hbel1 hg1
          go_wp2_with (at_builtin; refine append_one w1 rfl (.tmp 31) (.tmp 35) 60 rfl w.heap.size 5 i0 (.int .u8 0) 1 1 Tryd.underlying60 hi hz0 hz1 hz2 rfl (by decide) _ _ _ rfl N1.out.own [.int .u8 1] rfl rfl ?d2 ?d3 ?d4 ?d5 ?_ ?d6)
          case d2 => intro u hu; simp at hu; subst hu; rfl
          case d3 => unfold maxLen; simp; omega
          case d4 => simp; omega
          case d5 => omega
          case d6 => rfl
          intro v2 w2 hown2 hbel2 hg2
          have N2 := box (grown6 N1.out (by simpa [byteV] using hown2) hbel2 hg2 (by omega) 1 rfl)
          clear hown2 hbel2 hg2 p0 p1 p2 p3
          go_wp2_with fail
          go_roundw
          case rel =>
            refine ⟨k + 1, by go_num, hin, ?_⟩
            rw [TK.out, KV.out]
            rw [← List.append_assoc]
            exact (BX.out.alloc (.cells #[.int .u8 1, .int .i64 1, .int .u64 rr, .string tt] 24) (Nat.le_refl _)).trans N2.out
          case measure => simp [intOf]; omega
      · have KV : Box (keyV x = [3] ++ be 8 (flip x.int)) := box (by unfold keyV tailV; rw [K]; rfl)
        have FB := flip_bits x.int hok.int
        have FL := box (flip_lt hok.int)
        clear hmay hok KC
        obtain ⟨kk, ii, rr, tt⟩ := x
        dsimp only at *
        subst K
        have hk0 : wr.cell? ⟨tb, tf + k * 4, none⟩ = some (.int .u8 2) := hc0
        clear hc0
        obtain ⟨F, hF⟩ : ∃ F, flip ii = F := ⟨_, rfl⟩
        rw [hF] at FB FL KV
        clear hF
        have W0 := box (Bytes6.start BX.out.own (.cells #[.int .u8 2, .int .i64 ii, .int .u64 rr, .string tt] 24))
        go_wp2_with (at_builtin; refine append_some (wr.alloc (.cells #[.int .u8 2, .int .i64 ii, .int .u64 rr, .string tt] 24)) rfl (.tmp 21) (.tmp 25) 60 rfl w.heap.size 5 i0 (.int .u8 0) 1 Tryd.underlying60 hi hz0 hz1 hz2 rfl _ _ 1 _ rfl W0.out.own [.int .u8 3] (wr.heap.size + 1) rfl (by simp) rfl ?c2 ?c3 ?c4 ?c5 ?_ ?c6)
        case c2 => intro u hu; simp at hu; subst hu; rfl
        case c3 => unfold maxLen; omega
        case c4 => omega
        case c5 => simp; omega
        case c6 => rfl
        intro v1 w1 hown1 hbel1 hg1
        have N1 := box (grown6 W0.out hown1 hbel1 hg1 (by simp; omega) 3 rfl)
        have P1 := box (N1.out.kept _ _ (Whole1.made wr 24 #[.int .u8 2, .int .i64 ii, .int .u64 rr, .string tt]))
        have p0 : w1.cell? ⟨wr.heap.size, 0, none⟩ = some (.int .u8 2) := P1.out.cell 0
        have p1 : w1.cell? ⟨wr.heap.size, 1, none⟩ = some (.int .i64 ii) := P1.out.cell 1
        have p2 : w1.cell? ⟨wr.heap.size, 2, none⟩ = some (.int .u64 rr) := P1.out.cell 2
        have p3 : w1.cell? ⟨wr.heap.size, 3, none⟩ = some (.string tt) := P1.out.cell 3
        have S1 := N1.out.below.size
        have S0 : w.heap.size ≤ (wr.alloc (.cells #[.int .u8 2, .int .i64 ii, .int .u64 rr, .string tt] 24)).heap.size := by simp; omega
        clear hown1 hbel1 hg1
        have C49 := box (high_any w.heap.size v1 (L ++ [3]) F FL.out w1 (by simp; omega) N1.out.own (by omega))
        go_wp2_with fail
        refine C49.out.mono ?_
        rintro e w2 ⟨v2, rfl, hB2⟩
        have N2 := box (N1.out.trans hB2)
        clear hB2 p0 p1 p2 p3
        go_wp2_with fail
        go_roundw
        case rel =>
          refine ⟨k + 1, by go_num, hin, ?_⟩
          rw [TK.out, KV.out]
          rw [← List.append_assoc]
          exact (BX.out.alloc (.cells #[.int .u8 2, .int .i64 ii, .int .u64 rr, .string tt] 24) (Nat.le_refl _)).trans N2.out
        case measure => simp [intOf]; omega
      · have KV : Box (keyV x = [4] ++ be 8 (Rl.key x.real)) := box (by unfold keyV tailV; rw [K]; rfl)
        have C50 := box (fun W => key_any x.real W hok.real)
        have FL := box (Rl.keyOf_lt (Rl.canon_lt hok.real))
        clear hmay hok KC
        obtain ⟨kk, ii, rr, tt⟩ := x
        dsimp only at *
        subst K
        have hk0 : wr.cell? ⟨tb, tf + k * 4, none⟩ = some (.int .u8 3) := hc0
        clear hc0
        obtain ⟨F, hF⟩ : ∃ F, Rl.key rr = F := ⟨_, rfl⟩
        have FL' : Box (F < 18446744073709551616) := box (by rw [← hF]; exact FL.out)
        rw [hF] at C50 KV
        clear hF FL
        have W0 := box (Bytes6.start BX.out.own (.cells #[.int .u8 3, .int .i64 ii, .int .u64 rr, .string tt] 24))
        go_wp2_with (at_builtin; refine append_some (wr.alloc (.cells #[.int .u8 3, .int .i64 ii, .int .u64 rr, .string tt] 24)) rfl (.tmp 21) (.tmp 25) 60 rfl w.heap.size 5 i0 (.int .u8 0) 1 Tryd.underlying60 hi hz0 hz1 hz2 rfl _ _ 1 _ rfl W0.out.own [.int .u8 4] (wr.heap.size + 1) rfl (by simp) rfl ?c2 ?c3 ?c4 ?c5 ?_ ?c6)
        case c2 => intro u hu; simp at hu; subst hu; rfl
        case c3 => unfold maxLen; omega
        case c4 => omega
        case c5 => simp; omega
        case c6 => rfl
        intro v1 w1 hown1 hbel1 hg1
        have N1 := box (grown6 W0.out hown1 hbel1 hg1 (by simp; omega) 4 rfl)
        have P1 := box (N1.out.kept _ _ (Whole1.made wr 24 #[.int .u8 3, .int .i64 ii, .int .u64 rr, .string tt]))
        have p0 : w1.cell? ⟨wr.heap.size, 0, none⟩ = some (.int .u8 3) := P1.out.cell 0
        have p1 : w1.cell? ⟨wr.heap.size, 1, none⟩ = some (.int .i64 ii) := P1.out.cell 1
        have p2 : w1.cell? ⟨wr.heap.size, 2, none⟩ = some (.int .u64 rr) := P1.out.cell 2
        have p3 : w1.cell? ⟨wr.heap.size, 3, none⟩ = some (.string tt) := P1.out.cell 3
        have S1 := N1.out.below.size
        have S0 : w.heap.size ≤ (wr.alloc (.cells #[.int .u8 3, .int .i64 ii, .int .u64 rr, .string tt] 24)).heap.size := by simp; omega
        clear hown1 hbel1 hg1
        have C49 := box (high_any w.heap.size v1 (L ++ [4]) F FL'.out w1 (by simp; omega) N1.out.own (by omega))
        go_wp2_with fail
        refine (C50.out _).mono ?_
        rintro e wq ⟨rfl, rfl⟩
        go_wp2_with fail
        refine C49.out.mono ?_
        rintro e w2 ⟨v2, rfl, hB2⟩
        have N2 := box (N1.out.trans hB2)
        clear hB2 p0 p1 p2 p3
        go_wp2_with fail
        go_roundw
        case rel =>
          refine ⟨k + 1, by go_num, hin, ?_⟩
          rw [TK.out, KV.out]
          rw [← List.append_assoc]
          exact (BX.out.alloc (.cells #[.int .u8 3, .int .i64 ii, .int .u64 rr, .string tt] 24) (Nat.le_refl _)).trans N2.out
        case measure => simp [intOf]; omega
      · have KV : Box (keyV x = ([5] ++ Kl.esc x.text.data.toList) ++ [0, 1]) := box (by unfold keyV tailV; rw [K]; rfl)
        have t100 := (may45_of (.inl K) hmay).2.2
        have C51 := box (fun W hT => esc_any x.text W t100 hT)
        have EL := (Kl.esc_len x.text.data.toList).2
        have EL2 : x.text.data.toList.length = x.text.size := rfl
        clear hmay hok KC
        obtain ⟨kk, ii, rr, tt⟩ := x
        dsimp only at *
        subst K
        have hk0 : wr.cell? ⟨tb, tf + k * 4, none⟩ = some (.int .u8 4) := hc0
        clear hc0
        obtain ⟨E, hE⟩ : ∃ E, Kl.esc tt.data.toList = E := ⟨_, rfl⟩
        rw [hE] at C51 KV EL
        clear hE
        have ES : (⟨E.toArray⟩ : ByteArray).size = E.length := by simp [ByteArray.size]
        have W0 := box (Bytes6.start BX.out.own (.cells #[.int .u8 4, .int .i64 ii, .int .u64 rr, .string tt] 24))
        go_wp2_with (at_builtin; refine append_some (wr.alloc (.cells #[.int .u8 4, .int .i64 ii, .int .u64 rr, .string tt] 24)) rfl (.tmp 21) (.tmp 25) 60 rfl w.heap.size 5 i0 (.int .u8 0) 1 Tryd.underlying60 hi hz0 hz1 hz2 rfl _ _ 1 _ rfl W0.out.own [.int .u8 5] (wr.heap.size + 1) rfl (by simp) rfl ?c2 ?c3 ?c4 ?c5 ?_ ?c6)
        case c2 => intro u hu; simp at hu; subst hu; rfl
        case c3 => unfold maxLen; omega
        case c4 => omega
        case c5 => simp; omega
        case c6 => rfl
        intro v1 w1 hown1 hbel1 hg1
        have N1 := box (grown6 W0.out hown1 hbel1 hg1 (by simp; omega) 5 rfl)
        have P1 := box (N1.out.kept _ _ (Whole1.made wr 24 #[.int .u8 4, .int .i64 ii, .int .u64 rr, .string tt]))
        have p0 : w1.cell? ⟨wr.heap.size, 0, none⟩ = some (.int .u8 4) := P1.out.cell 0
        have p1 : w1.cell? ⟨wr.heap.size, 1, none⟩ = some (.int .i64 ii) := P1.out.cell 1
        have p2 : w1.cell? ⟨wr.heap.size, 2, none⟩ = some (.int .u64 rr) := P1.out.cell 2
        have p3 : w1.cell? ⟨wr.heap.size, 3, none⟩ = some (.string tt) := P1.out.cell 3
        have S1 := N1.out.below.size
        have S0 : w.heap.size ≤ (wr.alloc (.cells #[.int .u8 4, .int .i64 ii, .int .u64 rr, .string tt] 24)).heap.size := by simp; omega
        clear hown1 hbel1 hg1
        have T1 := box (HT.out.below (w' := w1) ((BX.out.alloc (.cells #[.int .u8 4, .int .i64 ii, .int .u64 rr, .string tt] 24) (Nat.le_refl _)).trans N1.out).below)
        go_wp2_with fail
        refine (C51.out _ T1.out).mono ?_
        rintro e w2 ⟨rfl, hb2⟩
        have N2 := box (N1.out.call hb2 S0)
        clear hb2 p0 p1 p2 p3
        go_wp2_with (at_builtin; refine Lib.wpList_append_own_string w2 rfl (.tmp 55) (.tmp 58) 60 9 rfl w.heap.size 5 i0 Tryd.underlying60 Tryd.underlying9 hi hz0 hz1 hz2 _ _ _ rfl N2.out.own ⟨E.toArray⟩ rfl ?d1 ?d2 ?d3 ?_)
        case d1 => rw [ES]; unfold maxLen; simp; omega
        case d2 => rw [ES]; simp; omega
        case d3 => have := N2.out.below.size; omega
        intro v3 w3 hown3 hg3 _
        have hbl3 : Below w.heap.size w2 w3 := Below.grown (Below.refl _ _) hg3 (by have := N2.out.below.size; omega) (own_ge N2.out.own)
        have N3 := box (grown6s N2.out (n := (L ++ [5]).length + E.length) (m := E) (zs := E.map byteV) rfl (by simpa [ES, strCells_bytes] using hown3) rfl hbl3 hg3)
        clear hown3 hg3 hbl3
        go_wp2_with (at_builtin; refine append_some w3 rfl (.tmp 60) (.tmp 61) 60 rfl w.heap.size 5 i0 (.int .u8 0) 1 Tryd.underlying60 hi hz0 hz1 hz2 rfl _ _ 2 _ rfl N3.out.own [.int .u8 0, .int .u8 1] _ rfl rfl rfl ?f2 ?f3 ?f4 ?f5 ?_ ?f6)
        case f2 => intro u hu; simp at hu; rcases hu with rfl | rfl <;> rfl
        case f3 => unfold maxLen; simp; omega
        case f4 => simp; omega
        case f5 => have := N3.out.below.size; omega
        case f6 => rfl
        intro v4 w4 hown4 hbel4 hg4
        have N4 := box (grown6s N3.out (n := (L ++ [5] ++ E).length + 2) (m := [0, 1]) (zs := [.int .u8 0, .int .u8 1]) rfl (by simpa using hown4) rfl hbel4 hg4)
        clear hown4 hbel4 hg4
        go_wp2_with fail
        go_roundw
        case rel =>
          refine ⟨k + 1, by go_num, hin, ?_⟩
          rw [TK.out, KV.out]
          rw [← List.append_assoc, ← List.append_assoc]
          exact (BX.out.alloc (.cells #[.int .u8 4, .int .i64 ii, .int .u64 rr, .string tt] 24) (Nat.le_refl _)).trans N4.out
        case measure => simp [intOf]; omega
      · have KV : Box (keyV x = ([6] ++ Kl.esc x.text.data.toList) ++ [0, 1]) := box (by unfold keyV tailV; rw [K]; rfl)
        have t100 := (may45_of (.inr K) hmay).2.2
        have C51 := box (fun W hT => esc_any x.text W t100 hT)
        have EL := (Kl.esc_len x.text.data.toList).2
        have EL2 : x.text.data.toList.length = x.text.size := rfl
        clear hmay hok KC
        obtain ⟨kk, ii, rr, tt⟩ := x
        dsimp only at *
        subst K
        have hk0 : wr.cell? ⟨tb, tf + k * 4, none⟩ = some (.int .u8 5) := hc0
        clear hc0
        obtain ⟨E, hE⟩ : ∃ E, Kl.esc tt.data.toList = E := ⟨_, rfl⟩
        rw [hE] at C51 KV EL
        clear hE
        have ES : (⟨E.toArray⟩ : ByteArray).size = E.length := by simp [ByteArray.size]
        have W0 := box (Bytes6.start BX.out.own (.cells #[.int .u8 5, .int .i64 ii, .int .u64 rr, .string tt] 24))
        go_wp2_with (at_builtin; refine append_some (wr.alloc (.cells #[.int .u8 5, .int .i64 ii, .int .u64 rr, .string tt] 24)) rfl (.tmp 21) (.tmp 25) 60 rfl w.heap.size 5 i0 (.int .u8 0) 1 Tryd.underlying60 hi hz0 hz1 hz2 rfl _ _ 1 _ rfl W0.out.own [.int .u8 6] (wr.heap.size + 1) rfl (by simp) rfl ?c2 ?c3 ?c4 ?c5 ?_ ?c6)
        case c2 => intro u hu; simp at hu; subst hu; rfl
        case c3 => unfold maxLen; omega
        case c4 => omega
        case c5 => simp; omega
        case c6 => rfl
        intro v1 w1 hown1 hbel1 hg1
        have N1 := box (grown6 W0.out hown1 hbel1 hg1 (by simp; omega) 6 rfl)
        have P1 := box (N1.out.kept _ _ (Whole1.made wr 24 #[.int .u8 5, .int .i64 ii, .int .u64 rr, .string tt]))
        have p0 : w1.cell? ⟨wr.heap.size, 0, none⟩ = some (.int .u8 5) := P1.out.cell 0
        have p1 : w1.cell? ⟨wr.heap.size, 1, none⟩ = some (.int .i64 ii) := P1.out.cell 1
        have p2 : w1.cell? ⟨wr.heap.size, 2, none⟩ = some (.int .u64 rr) := P1.out.cell 2
        have p3 : w1.cell? ⟨wr.heap.size, 3, none⟩ = some (.string tt) := P1.out.cell 3
        have S1 := N1.out.below.size
        have S0 : w.heap.size ≤ (wr.alloc (.cells #[.int .u8 5, .int .i64 ii, .int .u64 rr, .string tt] 24)).heap.size := by simp; omega
        clear hown1 hbel1 hg1
        have T1 := box (HT.out.below (w' := w1) ((BX.out.alloc (.cells #[.int .u8 5, .int .i64 ii, .int .u64 rr, .string tt] 24) (Nat.le_refl _)).trans N1.out).below)
        go_wp2_with fail
        refine (C51.out _ T1.out).mono ?_
        rintro e w2 ⟨rfl, hb2⟩
        have N2 := box (N1.out.call hb2 S0)
        clear hb2 p0 p1 p2 p3
        go_wp2_with (at_builtin; refine Lib.wpList_append_own_string w2 rfl (.tmp 55) (.tmp 58) 60 9 rfl w.heap.size 5 i0 Tryd.underlying60 Tryd.underlying9 hi hz0 hz1 hz2 _ _ _ rfl N2.out.own ⟨E.toArray⟩ rfl ?d1 ?d2 ?d3 ?_)
        case d1 => rw [ES]; unfold maxLen; simp; omega
        case d2 => rw [ES]; simp; omega
        case d3 => have := N2.out.below.size; omega
        intro v3 w3 hown3 hg3 _
        have hbl3 : Below w.heap.size w2 w3 := Below.grown (Below.refl _ _) hg3 (by have := N2.out.below.size; omega) (own_ge N2.out.own)
        have N3 := box (grown6s N2.out (n := (L ++ [6]).length + E.length) (m := E) (zs := E.map byteV) rfl (by simpa [ES, strCells_bytes] using hown3) rfl hbl3 hg3)
        clear hown3 hg3 hbl3
        go_wp2_with (at_builtin; refine append_some w3 rfl (.tmp 60) (.tmp 61) 60 rfl w.heap.size 5 i0 (.int .u8 0) 1 Tryd.underlying60 hi hz0 hz1 hz2 rfl _ _ 2 _ rfl N3.out.own [.int .u8 0, .int .u8 1] _ rfl rfl rfl ?f2 ?f3 ?f4 ?f5 ?_ ?f6)
        case f2 => intro u hu; simp at hu; rcases hu with rfl | rfl <;> rfl
        case f3 => unfold maxLen; simp; omega
        case f4 => simp; omega
        case f5 => have := N3.out.below.size; omega
        case f6 => rfl
        intro v4 w4 hown4 hbel4 hg4
        have N4 := box (grown6s N3.out (n := (L ++ [6] ++ E).length + 2) (m := [0, 1]) (zs := [.int .u8 0, .int .u8 1]) rfl (by simpa using hown4) rfl hbel4 hg4)
        clear hown4 hbel4 hg4
        go_wp2_with fail
        go_roundw
        case rel =>
          refine ⟨k + 1, by go_num, hin, ?_⟩
          rw [TK.out, KV.out]
          rw [← List.append_assoc, ← List.append_assoc]
          exact (BX.out.alloc (.cells #[.int .u8 5, .int .i64 ii, .int .u64 rr, .string tt] 24) (Nat.le_refl _)).trans N4.out
        case measure => simp [intOf]; omega
    · obtain rfl : k = n := by omega
      have hL : xs.take k = xs := List.take_of_length_le (by rw [HR.out.1]; omega)
      rw [hL] at BX
      have hcv := str_of_row (keyL xs) BX.out.own
      have BB := box BX.out.below
      clear BX hL
      go_wp2_with fail
      go_ret2
      exact ⟨rfl, BB.out⟩
end Go.Proofs.YtafialodjnjihaaDoor
