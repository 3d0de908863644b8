/- Many records: Some, the reference's Some, large, Same. No condition. -/
import Derived.Test.YtafialodjnjihaaTake
import Derived.ChangeKeysEq
namespace Go.Proofs.Ytafialodjnjihaa
open Go Go.RowKit
set_option maxRecDepth 100000
set_option linter.unusedVariables false

/-- A slice of records: what a walk asks of it. -/
def Recs3 (w : World) (a : Option Addr) (n : Nat) (rs : List Rc) : Prop :=
  rs.length = n ∧ n ≤ maxLen ∧ True ∧
    (0 < n → ∃ b off, a = some ⟨b, off, none⟩ ∧ b < w.heap.size ∧ ∀ i, i < n → ∀ j u, (rs.getD i Rc.zero).cells[j]? = some u → w.cell? ⟨b, off + i * 3 + j, none⟩ = some u)
theorem recs3_of {w : World} {a : Option Addr} {n : Nat} {rs : List Rc} (h : Recs w a n rs) : Recs3 w a n rs := ⟨h.1, h.2.1, trivial, h.2.2.2⟩

/-- Many records: up to the first that is refused. -/
def St.many (s : St) : List Rc → St × List Rc × Nat
  | [] => (s, [], 0)
  | r :: rs =>
    if (s.take r).2.2 ≠ 0 then ((s.take r).1, [], (s.take r).2.2)
    else (((s.take r).1.many rs).1, (if (s.take r).2.1 then [r] else []) ++ ((s.take r).1.many rs).2.1, ((s.take r).1.many rs).2.2)
theorem St.many_cat (xs ys : List Rc) : ∀ s : St, (s.many xs).2.2 = 0 → s.many (xs ++ ys) = (((s.many xs).1.many ys).1, (s.many xs).2.1 ++ ((s.many xs).1.many ys).2.1, ((s.many xs).1.many ys).2.2) := by
  induction xs with
  | nil => intro s _; simp [St.many]
  | cons r rs ih =>
    intro s h
    by_cases he : (s.take r).2.2 = 0
    · simp only [St.many, he, ne_eq, not_true_eq_false, if_false] at h
      simp only [List.cons_append, St.many, he, ne_eq, not_true_eq_false, if_false, ih _ h, List.append_assoc]
    · simp only [St.many, ne_eq, he, not_false_eq_true, if_true] at h
theorem St.many_one (s : St) (r : Rc) : s.many [r] = ((s.take r).1, (if (s.take r).2.2 = 0 then (if (s.take r).2.1 then [r] else []) else []), (s.take r).2.2) := by
  by_cases he : (s.take r).2.2 = 0 <;> simp [St.many, he]
theorem St.many_err (s : St) (r : Rc) (rs : List Rc) (he : (s.take r).2.2 ≠ 0) : s.many (r :: rs) = ((s.take r).1, [], (s.take r).2.2) := by
  simp only [St.many, he, ne_eq, not_false_eq_true, if_true]
theorem St.many_ok (xs : List Rc) : ∀ (s : St) (k : Nat), s.ok k → (s.many xs).1.ok (k + xs.length) := by
  induction xs with
  | nil => intro s k h; exact h
  | cons r rs ih =>
    intro s k h
    have h1 := St.take_ok h r
    by_cases he : (s.take r).2.2 = 0
    · simp only [St.many, he, ne_eq, not_true_eq_false, if_false]
      have := ih _ _ h1
      rw [List.length_cons, show k + (rs.length + 1) = k + 1 + rs.length by omega]; exact this
    · simp only [St.many, he, ne_eq, not_false_eq_true, if_true]
      obtain ⟨a, b, c, d⟩ := h1
      exact ⟨a, by simp; omega, by simp; omega, by simp; omega⟩
theorem St.many_len (xs : List Rc) : ∀ (s : St), (s.many xs).2.1.length ≤ xs.length := by
  induction xs with
  | nil => intro s; exact Nat.le_refl _
  | cons r rs ih =>
    intro s
    by_cases he : (s.take r).2.2 = 0
    · simp only [St.many, he, ne_eq, not_true_eq_false, if_false, List.length_append, List.length_cons]
      have := ih (s.take r).1
      split <;> simp <;> omega
    · simp only [St.many, he, ne_eq, not_false_eq_true, if_true]; simp
def flat (l : List Rc) : List Value := l.flatMap Rc.cells
theorem take_next (rs : List Rc) (i : Nat) (h : i < rs.length) : rs.take (i + 1) = rs.take i ++ [rs.getD i Rc.zero] := by
  rw [List.take_add_one]; simp [h]
theorem split_at (rs : List Rc) (i : Nat) (h : i < rs.length) : rs = rs.take i ++ rs.getD i Rc.zero :: rs.drop (i + 1) := by
  have := List.take_append_drop i rs
  conv => lhs; rw [← this, List.drop_eq_getElem_cons h]
  simp [h]
/-- Behind i records: the state, the fresh ones; none was refused. -/
structure Mid (s : St) (rs : List Rc) (i : Nat) (s1 : St) (l : List Rc) : Prop where
  state : (s.many (rs.take i)).1 = s1
  fresh : (s.many (rs.take i)).2.1 = l
  none : (s.many (rs.take i)).2.2 = 0
theorem Mid.start (s : St) (rs : List Rc) : Mid s rs 0 s [] := by constructor <;> simp [St.many]
theorem Mid.go {s s1 : St} {rs l : List Rc} {i : Nat} (h : Mid s rs i s1 l) (hi : i < rs.length) (he : (s1.take (rs.getD i Rc.zero)).2.2 = 0) :
    Mid s rs (i + 1) (s1.take (rs.getD i Rc.zero)).1 (l ++ if (s1.take (rs.getD i Rc.zero)).2.1 then [rs.getD i Rc.zero] else []) := by
  have hc := St.many_cat (rs.take i) [rs.getD i Rc.zero] s h.none
  rw [← take_next rs i hi, St.many_one, h.state, h.fresh, if_pos he] at hc
  constructor <;> rw [hc]
  exact he
theorem Mid.stop {s s1 : St} {rs l : List Rc} {i : Nat} (h : Mid s rs i s1 l) (hi : i < rs.length) (he : (s1.take (rs.getD i Rc.zero)).2.2 ≠ 0) :
    s.many rs = ((s1.take (rs.getD i Rc.zero)).1, l, (s1.take (rs.getD i Rc.zero)).2.2) := by
  have hc := St.many_cat (rs.take i) (rs.getD i Rc.zero :: rs.drop (i + 1)) s h.none
  rw [← split_at rs i hi, h.state, h.fresh, St.many_err _ _ _ he] at hc
  simpa using hc
theorem Mid.over {s s1 : St} {rs l : List Rc} {i : Nat} (h : Mid s rs i s1 l) (hi : i = rs.length) : s.many rs = (s1, l, 0) := by
  subst hi
  have h1 := h.state; have h2 := h.fresh; have h3 := h.none
  rw [List.take_length] at h1 h2 h3
  rw [← h1, ← h2, ← h3]
theorem Mid.ok {s s1 : St} {rs l : List Rc} {i k : Nat} (h : Mid s rs i s1 l) (hs : s.ok k) : s1.ok (k + i) := by
  have := St.many_ok (rs.take i) s k hs
  rw [h.state] at this
  obtain ⟨a, b, c, d⟩ := this
  have hl : (rs.take i).length ≤ i := by simp; omega
  exact ⟨a, by omega, by omega, by omega⟩
theorem Mid.len {s s1 : St} {rs l : List Rc} {i : Nat} (h : Mid s rs i s1 l) : l.length ≤ i := by
  have := St.many_len (rs.take i) s
  rw [h.fresh] at this
  have hl : (rs.take i).length ≤ i := by simp; omega
  omega

theorem info33 : (Try.prog.info? 33).map (fun i => (i.zero, i.size, i.bytes)) = some (some (.agg #[.int .u64 0, .int .u64 0, .string ⟨#[]⟩]), 3, 32) := by kernel_rfl
theorem some33 : ∃ i, Try.prog.info? 33 = some i ∧ i.zero = some (.agg #[.int .u64 0, .int .u64 0, .string ⟨#[]⟩]) ∧ i.size = 3 ∧ i.bytes = 32 := by
  have h := info33
  cases hi : Try.prog.info? 33 with
  | none => rw [hi] at h; cases h
  | some i => rw [hi] at h; simp at h; exact ⟨i, rfl, h.1, h.2.1, h.2.2⟩
theorem size33 (w : World) : (sizeOf 33).run Try.prog w = .ok 3 w := by
  obtain ⟨i, hi, _, h3, _⟩ := some33
  rw [run_sizeOf w hi]
  simp [Program.cellsOf, hi, h3]

def LargeSays (n : Nat) (w : World) (e : Ending) (w' : World) : Prop := ∃ B, e = .returned (.bool B) ∧ (B = false → n ≤ 200) ∧ w = w'
theorem large_any (a : Option Addr) (n c : Nat) (rs : List Rc) (w : World) (hr : Recs3 w a n rs) :
    Calls Try.prog 21 #[.slice a n c] w (LargeSays n w) := by
  have h33 := size33
  have HR := box hr; clear hr
  go_enter Try.func21, Try.ntmps21
  go_wp2_with fail
  go_loop [3, 4] (fun m c => ∃ (z : Int) (i : Nat), m = .int .i64 z ∧ c = .int .i64 i ∧ i ≤ n) (fun _ c => n - (intOf c).toNat)
  case atStart => exact ⟨0, 0, rfl, rfl, Nat.zero_le _⟩
  case round =>
    obtain ⟨z, i, rfl, rfl, hi⟩ := hrel
    by_cases hin : i < n
    · obtain ⟨tb, tf, rfl, htb, htc⟩ := HR.out.2.2.2 (by omega)
      have hcell := htc i hin 2 _ rfl
      generalize (rs.getD i Rc.zero).text = tx at hcell
      clear htc
      go_wp2_with fail
      · exact ⟨⟨_, i + 1, rfl, rfl, hin⟩, by simp only [intOf]; omega⟩
      all_goals (go_ret; exact ⟨_, rfl, (by first | (intro h; cases h; done) | (intro _; omega)), rfl⟩)
    · go_wp2_with fail
      all_goals (go_ret; exact ⟨_, rfl, (by first | (intro h; cases h; done) | (intro _; omega)), rfl⟩)

/-- Two slices of records that hold the same records, and a reading of each. -/
theorem same_any (a a' : Option Addr) (n c c' : Nat) (rs : List Rc) (w : World) (hr : Recs3 w a n rs) (hr' : Recs3 w a' n rs) :
    Calls Try.prog 26 #[.slice a n c, .slice a' n c'] w fun e w' => e = .returned (.bool true) ∧ ∃ q, w' = w.drewN q := by
  have h33 := size33
  have HR := box hr; clear hr
  have HR' := box hr'; clear hr'
  go_enter Try.func26, Try.ntmps26
  go_wp2_with fail
  go_loopw [5] (fun c wr => ∃ (i : Nat), c = .int .i64 i ∧ i ≤ n ∧ ∃ q, wr = w.drewN q) (fun c _ => n - (intOf c).toNat)
  case atStart => exact ⟨0, rfl, Nat.zero_le _, 0, rfl⟩
  case round =>
    obtain ⟨i, rfl, hi, q, rfl⟩ := hrel
    by_cases hin : i < n
    · obtain ⟨tb, tf, rfl, htb, htc⟩ := HR.out.2.2.2 (by omega)
      obtain ⟨tb', tf', rfl, htb', htc'⟩ := HR'.out.2.2.2 (by omega)
      have p0 := htc i hin 0 _ rfl
      have p1 := htc i hin 1 _ rfl
      have p2 := htc i hin 2 _ rfl
      have q0 := htc' i hin 0 _ rfl
      have q1 := htc' i hin 1 _ rfl
      have q2 := htc' i hin 2 _ rfl
      generalize rs.getD i Rc.zero = r at *
      obtain ⟨ro, rq, rt⟩ := r
      simp only [Nat.add_zero] at p0 q0
      have hd : decide (i < n) = true := by simpa using hin
      clear htc htc'
      go_wp2_with fail
      have hwrap : wrap64 ((i : Int) + 1) = ((i + 1 : Nat) : Int) := by have := HR.out.2.1; unfold maxLen at this; rw [IntWalk.wrap64_in _ (by omega)]; rfl
      go_quiet (fail)
      go_wp2_with fail
      refine ⟨⟨i + 1, by first | rw [hwrap] | rfl, hin, _, rfl⟩, by first | (rw [hwrap]; simp only [intOf]; omega) | (simp only [intOf]; omega)⟩
    · go_wp2_with fail
      all_goals (go_ret; exact ⟨rfl, q, rfl⟩)
/-- A cell of an argument, behind a call that may write one block of another number. -/
theorem grown_cell {w w' : World} {g : Nat} (h : w.grownBy w' (some g)) {p : Addr} (hp : p.block < w.heap.size) (hg : p.block ≠ g) : w'.cell? p = w.cell? p :=
  World.cell?_of_block (w := w) (h.block p.block hp (by simpa using hg))
theorem flat_cat (l l' : List Rc) : flat (l ++ l') = flat l ++ flat l' := by simp [flat]
theorem flat_one (r : Rc) : flat [r] = r.cells := by simp [flat]

def SomeSays (b t : Nat) (low : St → Array Value) (s : St) (rs : List Rc) (w : World) (e : Ending) (w' : World) : Prop :=
  ∃ v, e = .returned (.tuple #[v, .int .i64 (s.many rs).2.2]) ∧ w'.ownsRow w.heap.size 33 3 v (s.many rs).2.1.length (flat (s.many rs).2.1) ∧ Whole1 w' b t (low (s.many rs).1) ∧ w.grownBy w' (some b)

theorem grown_then {w w2 w3 : World} {row : Option Nat} (h : w.grownBy w2 row) (h2 : Below w.heap.size w2 w3) : w.grownBy w3 row :=
  ⟨h2.os.trans h.os, h2.tape.trans h.tape, h2.output.trans h.output, Nat.le_trans h.size h2.size, fun k hk hne => (h2.block k hk).trans (h.block k hk hne)⟩
theorem ok_to {k k' : Nat} {s : St} (h : s.ok k) (hk : k ≤ k') : s.ok k' := ⟨h.1, by have := h.2.1; omega, by have := h.2.2.1; omega, by have := h.2.2.2; omega⟩

set_option maxHeartbeats 2000000 in
theorem some_any (b : Nat) (s : St) (a : Option Addr) (n c : Nat) (rs : List Rc) (w : World) (hs : s.ok 1000) (hn : n ≤ 200) (hr : Recs3 w a n rs) (hb : Whole1 w b 86 s.low) (hab : 0 < n → ∀ p, a = some p → p.block ≠ b) :
    Calls Try.prog 23 #[.pointer (some ⟨b, 0, none⟩), .slice a n c] w (SomeSays b 86 St.low s rs w) := by
  have h33 := size33
  have HR := box hr; clear hr
  have HB := box hb; clear hb
  have HS := box hs; clear hs
  have HA := box hab; clear hab
  go_enter Try.func23, Try.ntmps23
  go_wp2_with fail
  go_loopw [4, 14] (fun v i wr => ∃ (j : Nat) (s1 : St) (l : List Rc), i = .int .i64 j ∧ j ≤ n ∧ Mid s rs j s1 l ∧ wr.ownsRow w.heap.size 33 3 v l.length (flat l) ∧ Whole1 wr b 86 s1.low ∧ w.grownBy wr (some b)) (fun _ i _ => n - (intOf i).toNat)
  case atStart => exact ⟨0, s, [], rfl, Nat.zero_le _, Mid.start s rs, World.ownsRow_nil _ _ _ _, HB.out, World.grownBy.refl _ _⟩
  case round =>
    obtain ⟨j, s1, l, rfl, hj, hmid, hown, hx, hgr⟩ := hrel
    have M := box hmid
    have O := box hown
    have X := box hx
    have G := box hgr
    have hsz := hgr.size
    clear hmid hown hx hgr HB
    have hl : rs.length = n := HR.out.1
    by_cases hin : j < n
    · obtain ⟨tb, tf, rfl, htb, htc⟩ := HR.out.2.2.2 (by omega)
      have hne : tb ≠ b := HA.out (by omega) _ rfl
      have MG := box (M.out.go (by omega : j < rs.length))
      have MS := box (M.out.stop (by omega : j < rs.length))
      have TC0 := box (htc j hin 0 _ rfl)
      have TC1 := box (htc j hin 1 _ rfl)
      have TC2 := box (htc j hin 2 _ rfl)
      generalize rs.getD j Rc.zero = r at *
      have p0 : wr.cell? ⟨tb, tf + j * 3, none⟩ = some (.int .u64 r.off) := (grown_cell G.out (by exact htb) (by exact hne)).trans TC0.out
      have p1 := (grown_cell G.out (by exact htb) (by exact hne)).trans TC1.out
      have p2 := (grown_cell G.out (by exact htb) (by exact hne)).trans TC2.out
      have R0 := box (Whole1.made wr 33 #[.int .u64 r.off, .int .u64 r.seq, .string r.text])
      have NE := box (own_ne O.out X.out (by decide))
      have hd : decide (j < n) = true := by simpa using hin
      have OK := box (ok_to (M.out.ok HS.out) (by omega : 1000 + j ≤ 1300))
      clear htc
      go_wp2_with fail
      refine (take_step b 1300 s1 r _ (by omega) OK.out (X.out.alloc _)).mono ?_
      rintro e w2 ⟨rfl, hx2, hb2⟩
      clear p0 p1 p2
      have X2 := box hx2
      have B2 := box (grown_trans (Only.alloc (World.grownBy.refl wr (some b)) _) hb2)
      have G2 := box (grown_trans G.out B2.out)
      have O2 := box (own_kept O.out B2.out (.inr NE.out))
      have N2 := box (own_ne O2.out X2.out (by decide))
      have hsz2 : w.heap.size ≤ w2.heap.size := G2.out.size
      have hbl : b < wr.heap.size := X.out.lt
      have r2 := R0.out.grown hb2 (by simp; omega)
      have p0 := r2.cell 0
      have p1 := r2.cell 1
      have p2 := r2.cell 2
      clear r2
      clear hx2 hb2
      generalize s1.take r = st at *
      obtain ⟨s2, fr, er⟩ := st
      dsimp only at *
      by_cases her : er = 0
      · subst her
        have MG2 := box (MG.out rfl)
        clear MG MS
        cases fr
        · go_wp2_with fail
          exact ⟨⟨j + 1, s2, l, rfl, hin, (by simpa using MG2.out), O2.out, X2.out, G2.out⟩, by simp only [intOf]; omega⟩
        · obtain ⟨z33, hi, hz0, hz1, hz2⟩ := some33
          have hll := M.out.len
          go_wp2_with (at_builtin; refine append_one w2 rfl (.tmp 29) (.tmp 31) 31 rfl w.heap.size 33 z33 (.agg #[.int .u64 0, .int .u64 0, .string ⟨#[]⟩]) 3 32 Try.underlying31 hi hz0 hz1 hz2 rfl (by decide) _ _ _ rfl O2.out [.int .u64 r.off, .int .u64 r.seq, .string r.text] rfl rfl ?c2 ?c3 ?c4 hsz2 ?_ rfl)
          case c2 => first | exact ⟨rfl, rfl, rfl⟩ | (intro u hu; simp at hu; rcases hu with rfl | rfl | rfl <;> rfl)
          case c3 => unfold maxLen; omega
          case c4 => omega
          intro v1 w3 hown1 hbel1 hgrown
          have X3 := box (X2.out.grown hgrown (fun h => N2.out h.symm))
          have O3 := box hown1
          have G3 := box (grown_then G2.out hbel1)
          clear hown1 hbel1 hgrown
          go_wp2_with fail
          exact ⟨⟨j + 1, s2, l ++ [r], rfl, hin, (by simpa using MG2.out), (by rw [flat_cat, flat_one, List.length_append]; exact O3.out), X3.out, G3.out⟩, by simp only [intOf]; omega⟩
      · have t1 : ((er : Int) != 0) = true := by simp; omega
        have t2 : ((er : Int) == 0) = false := by simp; omega
        have t3 : (er == 0) = false := by simpa using her
        have t4 : (er != 0) = true := by simpa using her
        go_wp2_with fail
        go_ret2
        have hm := MS.out her
        exact ⟨_, (by rw [hm]; rfl), (by rw [hm]; exact O2.out), (by rw [hm]; exact X2.out), G2.out⟩
    · have hm := M.out.over (by omega)
      have HM := box hm
      clear hm
      go_wp2_with fail
      go_ret2
      have hm := HM.out
      exact ⟨_, (by rw [hm]; rfl), (by rw [hm]; exact O.out), (by rw [hm]; exact X.out), G.out⟩

set_option maxHeartbeats 2000000 in
theorem rsome_any (b : Nat) (s : St) (a : Option Addr) (n c : Nat) (rs : List Rc) (w : World) (hs : s.ok 1000) (hn : n ≤ 200) (hr : Recs3 w a n rs) (hb : Whole1 w b 41 s.ref) (hab : 0 < n → ∀ p, a = some p → p.block ≠ b) :
    Calls Try.prog 24 #[.pointer (some ⟨b, 0, none⟩), .slice a n c] w (SomeSays b 41 St.ref s rs w) := by
  have h33 := size33
  have HR := box hr; clear hr
  have HB := box hb; clear hb
  have HS := box hs; clear hs
  have HA := box hab; clear hab
  go_enter Try.func24, Try.ntmps24
  go_wp2_with fail
  go_loopw [6, 7] (fun v i wr => ∃ (j : Nat) (s1 : St) (l : List Rc), i = .int .i64 j ∧ j ≤ n ∧ Mid s rs j s1 l ∧ wr.ownsRow w.heap.size 33 3 v l.length (flat l) ∧ Whole1 wr b 41 s1.ref ∧ w.grownBy wr (some b)) (fun _ i _ => n - (intOf i).toNat)
  case atStart => exact ⟨0, s, [], rfl, Nat.zero_le _, Mid.start s rs, World.ownsRow_nil _ _ _ _, HB.out, World.grownBy.refl _ _⟩
  case round =>
    obtain ⟨j, s1, l, rfl, hj, hmid, hown, hx, hgr⟩ := hrel
    have M := box hmid
    have O := box hown
    have X := box hx
    have G := box hgr
    have hsz := hgr.size
    clear hmid hown hx hgr HB
    have hl : rs.length = n := HR.out.1
    by_cases hin : j < n
    · obtain ⟨tb, tf, rfl, htb, htc⟩ := HR.out.2.2.2 (by omega)
      have hne : tb ≠ b := HA.out (by omega) _ rfl
      have MG := box (M.out.go (by omega : j < rs.length))
      have MS := box (M.out.stop (by omega : j < rs.length))
      have TC0 := box (htc j hin 0 _ rfl)
      have TC1 := box (htc j hin 1 _ rfl)
      have TC2 := box (htc j hin 2 _ rfl)
      generalize rs.getD j Rc.zero = r at *
      have p0 : wr.cell? ⟨tb, tf + j * 3, none⟩ = some (.int .u64 r.off) := (grown_cell G.out (by exact htb) (by exact hne)).trans TC0.out
      have p1 := (grown_cell G.out (by exact htb) (by exact hne)).trans TC1.out
      have p2 := (grown_cell G.out (by exact htb) (by exact hne)).trans TC2.out
      have R0 := box (Whole1.made wr 33 #[.int .u64 r.off, .int .u64 r.seq, .string r.text])
      have NE := box (own_ne O.out X.out (by decide))
      have hd : decide (j < n) = true := by simpa using hin
      have OK := box (ok_to (M.out.ok HS.out) (by omega : 1000 + j ≤ 1300))
      clear htc
      go_wp2_with fail
      refine (rtake_step b 1300 s1 r _ (by omega) OK.out X.out).mono ?_
      rintro e w2 ⟨rfl, hx2, hb2⟩
      clear p0 p1 p2
      have X2 := box hx2
      have B2 := box hb2
      have G2 := box (grown_trans G.out B2.out)
      have O2 := box (own_kept O.out B2.out (.inr NE.out))
      have N2 := box (own_ne O2.out X2.out (by decide))
      have hsz2 : w.heap.size ≤ w2.heap.size := G2.out.size
      have hbl : b < wr.heap.size := X.out.lt
      have p0 : w2.cell? ⟨tb, tf + j * 3, none⟩ = some (.int .u64 r.off) := (grown_cell G2.out (by exact htb) (by exact hne)).trans TC0.out
      have p1 := (grown_cell G2.out (by exact htb) (by exact hne)).trans TC1.out
      have p2 := (grown_cell G2.out (by exact htb) (by exact hne)).trans TC2.out
      clear hx2 hb2
      generalize s1.take r = st at *
      obtain ⟨s2, fr, er⟩ := st
      dsimp only at *
      by_cases her : er = 0
      · subst her
        have MG2 := box (MG.out rfl)
        clear MG MS
        cases fr
        · go_wp2_with fail
          exact ⟨⟨j + 1, s2, l, rfl, hin, (by simpa using MG2.out), O2.out, X2.out, G2.out⟩, by simp only [intOf]; omega⟩
        · obtain ⟨z33, hi, hz0, hz1, hz2⟩ := some33
          have hll := M.out.len
          go_wp2_with (at_builtin; refine append_one w2 rfl (.tmp 30) (.tmp 35) 31 rfl w.heap.size 33 z33 (.agg #[.int .u64 0, .int .u64 0, .string ⟨#[]⟩]) 3 32 Try.underlying31 hi hz0 hz1 hz2 rfl (by decide) _ _ _ rfl O2.out [.int .u64 r.off, .int .u64 r.seq, .string r.text] rfl rfl ?c2 ?c3 ?c4 hsz2 ?_ rfl)
          case c2 => first | exact ⟨rfl, rfl, rfl⟩ | (intro u hu; simp at hu; rcases hu with rfl | rfl | rfl <;> rfl)
          case c3 => unfold maxLen; omega
          case c4 => omega
          intro v1 w3 hown1 hbel1 hgrown
          have X3 := box (X2.out.grown hgrown (fun h => N2.out h.symm))
          have O3 := box hown1
          have G3 := box (grown_then G2.out hbel1)
          clear hown1 hbel1 hgrown
          go_wp2_with fail
          exact ⟨⟨j + 1, s2, l ++ [r], rfl, hin, (by simpa using MG2.out), (by rw [flat_cat, flat_one, List.length_append]; exact O3.out), X3.out, G3.out⟩, by simp only [intOf]; omega⟩
      · have t1 : ((er : Int) != 0) = true := by simp; omega
        have t2 : ((er : Int) == 0) = false := by simp; omega
        have t3 : (er == 0) = false := by simpa using her
        have t4 : (er != 0) = true := by simpa using her
        go_wp2_with fail
        go_ret2
        have hm := MS.out her
        exact ⟨_, (by rw [hm]; rfl), (by rw [hm]; exact O2.out), (by rw [hm]; exact X2.out), G2.out⟩
    · have hm := M.out.over (by omega)
      have HM := box hm
      clear hm
      go_wp2_with fail
      go_ret2
      have hm := HM.out
      exact ⟨_, (by rw [hm]; rfl), (by rw [hm]; exact O.out), (by rw [hm]; exact X.out), G.out⟩

theorem flat_len (l : List Rc) : (flat l).length = l.length * 3 := by
  induction l with
  | nil => rfl
  | cons r l ih => simp only [flat, List.flatMap_cons, List.length_append, List.length_cons] at ih ⊢; rw [ih]; simp [Rc.cells]; omega
theorem flat_at (l : List Rc) : ∀ (i : Nat), i < l.length → ∀ j u, (l.getD i Rc.zero).cells[j]? = some u → (flat l)[i * 3 + j]? = some u := by
  induction l with
  | nil => intro i h; simp at h
  | cons r l ih =>
    intro i h j u hu
    have hj : j < 3 := by
      have := (List.getElem?_eq_some_iff.1 hu).1
      simpa [Rc.cells] using this
    have e : flat (r :: l) = r.cells ++ flat l := rfl
    rw [e]
    cases i with
    | zero =>
      rw [List.getElem?_append_left (by simp [Rc.cells]; omega)]
      simpa using hu
    | succ i =>
      rw [List.getElem?_append_right (by simp [Rc.cells]; omega)]
      have h3 : (i + 1) * 3 + j - r.cells.length = i * 3 + j := by simp [Rc.cells]; omega
      rw [h3]
      exact ih i (by simpa using h) j u (by simpa using hu)
theorem own_recs {w : World} {base n : Nat} {v : Value} {l : List Rc} (h : w.ownsRow base 33 3 v n (flat l)) (hn : l.length = n) (hm : n ≤ maxLen) :
    ∃ a cap, v = .slice a n cap ∧ Recs3 w a n l := by
  by_cases h0 : 0 < n
  · obtain ⟨g, cap, rfl, hc⟩ := own_cell h h0
    refine ⟨_, cap, rfl, hn, hm, trivial, fun _ => ⟨g, 0, rfl, ?_, fun i hi j u hu => ?_⟩⟩
    · have := hc 0 _ (flat_at l 0 (by omega) 0 _ rfl)
      exact cell_lt this
    · rw [Nat.zero_add]; exact hc _ _ (flat_at l i (by omega) j u hu)
  · obtain ⟨a, cap, rfl⟩ := own_any h
    exact ⟨a, cap, rfl, hn, hm, trivial, fun h => absurd h h0⟩
theorem recs3_kept {w w' : World} {g n : Nat} {a : Option Addr} {l : List Rc} (h : Recs3 w a n l) (hg : w.grownBy w' (some g)) (hne : ∀ p, a = some p → p.block ≠ g) : Recs3 w' a n l :=
  ⟨h.1, h.2.1, trivial, fun h0 => by
    obtain ⟨b, off, rfl, hb, hc⟩ := h.2.2.2 h0
    exact ⟨b, off, rfl, Nat.lt_of_lt_of_le hb hg.size, fun i hi j u hu => (grown_cell hg (by exact hb) (by exact hne ⟨b, off, none⟩ rfl)).trans (hc i hi j u hu)⟩⟩
theorem recs3_below {w w' : World} {n : Nat} {a : Option Addr} {l : List Rc} (h : Recs3 w a n l) (hg : Below w.heap.size w w') : Recs3 w' a n l :=
  ⟨h.1, h.2.1, trivial, fun h0 => by
    obtain ⟨b, off, rfl, hb, hc⟩ := h.2.2.2 h0
    exact ⟨b, off, rfl, Nat.lt_of_lt_of_le hb hg.size, fun i hi j u hu => (hg.cell (by exact hb)).trans (hc i hi j u hu)⟩⟩
theorem recs3_drewN {w : World} {n : Nat} {a : Option Addr} {l : List Rc} (h : Recs3 w a n l) (q : Nat) : Recs3 (w.drewN q) a n l := h

end Go.Proofs.Ytafialodjnjihaa
