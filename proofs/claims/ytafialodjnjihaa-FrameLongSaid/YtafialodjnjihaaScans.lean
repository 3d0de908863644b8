/- frame.Scan: where it stops, with what. No condition. -/
import Derived.Test.YtafialodjnjihaaFrameScan
import Derived.Test.YtafialodjnjihaaTorn
import Derived.Shelf.Abstract
import Derived.Shelf.RegionOpen
import Derived.RegionIn
import Derived.TacticsIn
namespace Go.Proofs.Ytafialodjnjihaa
open Go Go.RowKit Go.BigFrame
set_option maxRecDepth 100000
set_option linter.unusedVariables false
attribute [local go_sem] Oper.semAt_some

theorem frames75 (b : ByteArray) (w : World) :
    Calls Try.prog 75 #[.string b] w fun e w' => e = .returned (.func (.func 78) #[] #[.pointer (some ⟨w.heap.size, 0, none⟩)]) ∧ w' = w.alloc (.cells #[.string b] 9) := by
  go_enter Try.func75, Try.ntmps75
  go_wp2_with fail
  go_ret
  exact ⟨rfl, rfl⟩

theorem hold_start (b : ByteArray) (w : World) :
    Hold w (.slice none 0 0) [] 0 0 b ((((w.alloc (.cells #[.slice none 0 0] 23)).alloc (.cells #[.int .i64 0] 3)).alloc (.cells #[.int .i64 0] 27)).alloc (.cells #[.string b] 9)) := by
  have h1 := Whole1.made w 23 #[.slice none 0 0]
  have h2 := Whole1.made (w.alloc (.cells #[.slice none 0 0] 23)) 3 #[.int .i64 0]
  have h3 := Whole1.made ((w.alloc (.cells #[.slice none 0 0] 23)).alloc (.cells #[.int .i64 0] 3)) 27 #[.int .i64 0]
  have h4 := Whole1.made (((w.alloc (.cells #[.slice none 0 0] 23)).alloc (.cells #[.int .i64 0] 3)).alloc (.cells #[.int .i64 0] 27)) 9 #[.string b]
  simp only [World.size_alloc] at h2 h3 h4
  exact ⟨⟨((h1.alloc _).alloc _).alloc _, (h2.alloc _).alloc _, h3.alloc _, h4, World.ownsRow_nil _ _ _ _⟩, ((((Below.refl _ w).alloc (Nat.le_refl _) _).alloc (by simp) _).alloc (by simp; omega) _).alloc (by simp; omega) _⟩

theorem going_firm {b : ByteArray} {w : World} {R : ByteArray} {B : Nat} (hB : w.heap.size ≤ B) : Firm B (Going b w R) :=
  fun W W' row ⟨k, p, v, l, h1, h2, h3⟩ hg hr => ⟨k, p, v, l, h1, h2, hold_firm hB W W' row h3 hg hr⟩

/-- One element appended to a row of the call's own, within a round. -/
theorem append_in {F : Fence} {n' : Nat} {P : Program} (w : World) {W : World} {ops : Array Oper} {rest : List Oper} {o : Oper} {a : Act} {Q : Exit → Act → World → Prop} (hgd : o.guard = none) (s x : Operand) (t : TypeId)
    (ho : o.op = .call { callee := .builtin .append, args := #[s, x], argTypes := #[t, t] })
    (base : Nat) (e : TypeId) (i : TypeInfo) (z : Value) (size bytes : Nat) (ht : P.underlying t = some (.slice e)) (hi : P.info? e = some i) (hz : i.zero = some z)
    (hsize : i.size = size) (hby : i.bytes = bytes) (hzs : z.cells.size = size) (hsz : 0 < size)
    (v : Value) (n : Nat) (xs : List Value) (hs : a.eval s = v) (hown : w.ownsRow base e size v n xs)
    (us : List Value) (hx : a.eval x = .slice (some ⟨w.heap.size, 0, none⟩) 1 1) (hl : us.length = size) (h1 : ∀ u ∈ us, u.oneCell' = true)
    (h63 : n + 1 ≤ maxLen) (hbytes : (n + 1) * bytes ≤ 140737488355328) (hbase : base ≤ w.heap.size)
    (h : ∀ v' w', w'.ownsRow base e size v' (n + 1) (xs ++ us) → Below base w w' → w.grownBy w' v.ownBlock → wpListIn F n' P ops Q rest (a.put o.dst v') w') (hW : W = w.alloc (.cells us.toArray e)) : wpListIn F n' P ops Q (o :: rest) a W := by
  subst hW
  refine wpListIn_append_own _ hgd s x t ho base e i z size bytes ht hi hz hsize hby hzs hsz v n xs hs (hown.alloc _) ⟨w.heap.size, 0, none⟩ 1 1 us hx (by simpa using hl) ?_ h1 h63 hbytes (by simp; omega) ?_
  · intro j u hj
    have e0 : (⟨w.heap.size, 0, none⟩ : Addr).add j = ⟨w.heap.size, j, none⟩ := by unfold Addr.add; split <;> simp_all
    rw [e0]
    have h2 : Whole1 (w.alloc (.cells us.toArray e)) w.heap.size e us.toArray := Whole1.made w e us.toArray
    rw [h2.cell j]
    simpa using hj
  · intro v' w' h2 h3 _
    refine h v' w' h2 ?_ ?_
    · exact Below.grown (Below.alloc (Below.refl _ _) hbase _) h3 (by simp; omega) (own_ge hown)
    · have h4 : w.grownBy (w.alloc (.cells us.toArray e)) v.ownBlock := Only.alloc (World.grownBy.refl _ _) _
      exact ⟨h3.os.trans h4.os, h3.tape.trans h4.tape, h3.output.trans h4.output, Nat.le_trans h4.size h3.size, fun k hk hne => (h3.block k (Nat.lt_of_lt_of_le hk h4.size) hne).trans (h4.block k hk hne)⟩

theorem rest_rest (b : ByteArray) (p m : Nat) : rest b (p + m) = (rest b p).extract m (rest b p).size := by
  apply toL
  unfold rest
  rw [extL, extL, extL, List.drop_take, List.drop_drop, List.take_take]
  congr 1
  simp [ByteArray.size_extract]; omega

/-- One round: a text more. -/
theorem Hold.more {w W W1 : World} {v : Value} {l : List ByteArray} {p : Nat} {x : ByteArray} (h : Hold w v l p 0 x W) (s : ByteArray) (v' : Value)
    (ho : W1.ownsRow (w.heap.size + 4) 9 1 v' (l.length + 1) (texts l ++ [.string s])) (hb : Below (w.heap.size + 4) W W1) :
    Hold w v' (l ++ [s]) (p + (12 + s.size)) 0 x ((W1.setCell ⟨w.heap.size, 0, none⟩ v').setCell ⟨w.heap.size + 1, 0, none⟩ (.int .i64 ((p + (12 + s.size) : Nat) : Int))) := by
  obtain ⟨⟨h1, h2, h3, h4, h5⟩, h6⟩ := h
  have e : texts (l ++ [s]) = texts l ++ [.string s] := by simp [texts]
  have hl : (l ++ [s]).length = l.length + 1 := by simp
  refine ⟨⟨?_, ?_, ?_, ?_, ?_⟩, ?_⟩
  · exact (((h1.below hb (by omega)).put 0 v').to rfl).other (by simp) _
  · exact (((h2.below hb (by omega)).other (by simp) _).put 0 _).to rfl
  · exact ((h3.below hb (by omega)).other (by simp; omega) _).other (by simp) _
  · exact ((h4.below hb (by omega)).other (by simp; omega) _).other (by simp; omega) _
  · rw [e, hl]
    exact own_kept (own_kept ho (only_set _ _ _ _) (own_far ho (by omega))) (only_set _ _ _ _) (own_far ho (by omega))
  · exact ((h6.trans (hb.mono (by omega))).setCell (p := ⟨w.heap.size, 0, none⟩) (by simp) _).setCell (p := ⟨w.heap.size + 1, 0, none⟩) (by simp) _
/-- The results are laid. -/
theorem Hold.says {w W : World} {v : Value} {l : List ByteArray} {p e0 : Nat} {x : ByteArray} (h : Hold w v l p e0 x W) (er : Nat) :
    Hold w v l p er x (((W.setCell ⟨w.heap.size, 0, none⟩ v).setCell ⟨w.heap.size + 1, 0, none⟩ (.int .i64 (p : Int))).setCell ⟨w.heap.size + 1 + 1, 0, none⟩ (.int .i64 (er : Int))).drew := by
  obtain ⟨⟨h1, h2, h3, h4, h5⟩, h6⟩ := h
  refine ⟨⟨?_, ?_, ?_, ?_, ?_⟩, ?_⟩
  · exact ((((h1.put 0 v).to rfl).other (by simp) _).other (by simp; omega) _).drew
  · exact ((((h2.other (by simp) _).put 0 _).to rfl).other (by simp) _).drew
  · exact ((((h3.other (by simp; omega) _).other (by simp) _).put 0 _).to rfl).drew
  · exact (((h4.other (by simp; omega) _).other (by simp; omega) _).other (by simp) _).drew
  · exact own_kept (own_kept (own_kept h5 (only_set _ _ _ _) (own_far h5 (by omega))) (only_set _ _ _ _) (own_far h5 (by omega))) (Only.drew (only_set _ _ _ _)) (own_far h5 (by omega))
  · exact (((h6.setCell (p := ⟨w.heap.size, 0, none⟩) (by simp) _).setCell (p := ⟨w.heap.size + 1, 0, none⟩) (by simp) _).setCell (p := ⟨w.heap.size + 1 + 1, 0, none⟩) (by simp; omega) _).drew
theorem keeps_says (W : World) (a b c : Addr) (u v x : Value) : KeepsOthers W (((W.setCell a u).setCell b v).setCell c x).drew :=
  (((KeepsOthers.setCell _ _ _).trans (KeepsOthers.setCell _ _ _)).trans (KeepsOthers.setCell _ _ _)).trans (KeepsOthers.drew _)
theorem keeps_append {A B : World} {base e n : Nat} {v : Value} {xs : List Value} (h : A.ownsRow base e 1 v n xs) (hg : A.grownBy B v.ownBlock) : KeepsOthers A B :=
  KeepsOthers.of_grownBy hg (fun j o ej hj => by
    rcases h.2 with ⟨rfl, _⟩ | ⟨g, cap, cur, rfl, _, hgb, _⟩
    · simp [Value.ownBlock] at ej
    · have : g = j := by simpa [Value.ownBlock] using ej
      subst this
      rw [hgb] at hj; cases hj; rfl)
theorem left_firm {b : ByteArray} {w : World} {c : Code} {R : ByteArray} {B : Nat} (hB : w.heap.size ≤ B) : Firm B (LeftBy b w c R) :=
  fun W W' row ⟨h1, p, v, l, h2, h3⟩ hg hr => ⟨h1, p, v, l, h2, hold_firm hB W W' row h3 hg hr⟩
theorem through_firm {b : ByteArray} {w : World} {B : Nat} (hB : w.heap.size ≤ B) : Firm B (Through b w) :=
  fun W W' row ⟨p, v, l, R, h2, h3⟩ hg hr => ⟨p, v, l, R, h2, hold_firm hB W W' row h3 hg hr⟩
theorem went_firm {b : ByteArray} {w : World} {R : ByteArray} {B : Nat} (hB : w.heap.size ≤ B) : Firm B (Went b w R) :=
  fun W W' row ⟨h1, k, p, v, l, h2, h3, h4, h5⟩ hg hr => ⟨h1, k, p, v, l, h2, h3, h4, hold_firm hB W W' row h5 hg hr⟩
theorem atYield_firm {b : ByteArray} {w : World} {R : ByteArray} {B : Nat} (hB : w.heap.size ≤ B) : Firm B (AtYield b w R) :=
  fun W W' row ⟨h1, h2⟩ hg hr => ⟨h1, going_firm hB W W' row h2 hg hr⟩

theorem own_mono {w : World} {base base' size n : Nat} {e : TypeId} {v : Value} {xs : List Value} (h : w.ownsRow base e size v n xs) (hb : base' ≤ base) : w.ownsRow base' e size v n xs := by
  refine ⟨h.1, ?_⟩
  rcases h.2 with h1 | ⟨g, cap, cur, rfl, hg, rest⟩
  · exact .inl h1
  · exact .inr ⟨g, cap, cur, rfl, Nat.le_trans hb hg, rest⟩
theorem scan_post {b : ByteArray} {w W : World} {v : Value} {l : List ByteArray} {p er D : Nat} {x : ByteArray} (hst : Stops b l p er) (hH : Hold w v l p er x W) (hD : w.heap.size + 4 ≤ D) (hK : W.heap[D]? = some (.deferred (some []))) :
    (W.putObj D (.deferred none)).cell? ⟨w.heap.size, 0, none⟩ = some v ∧ (W.putObj D (.deferred none)).cell? ⟨w.heap.size + 1, 0, none⟩ = some (.int .i64 (p : Nat)) ∧ (W.putObj D (.deferred none)).cell? ⟨w.heap.size + 1 + 1, 0, none⟩ = some (.int .i64 (er : Nat)) ∧
      ScanSays b w (.returned (.tuple #[v, .int .i64 (p : Nat), .int .i64 (er : Nat)])) (W.putObj D (.deferred none)) := by
  have h := (hold_firm (w := w) (v := v) (l := l) (p := p) (er := er) (R := x) (Nat.le_refl w.heap.size)).putObj (.deferred none) hH (by omega) hK rfl
  exact ⟨h.1.1.cell 0, h.1.2.1.cell 0, h.1.2.2.1.cell 0, v, l, p, er, hst, rfl, own_mono h.1.2.2.2.2 (by omega), h.2⟩

set_option maxHeartbeats 4000000 in
theorem frameScan_any (b : ByteArray) (w : World) (hb : b.size ≤ 1000000000) :
    Calls Try.prog 59 #[.string b] w (ScanSays b w) := by
  have HB := box hb
  clear hb
  refine (callsIn_wide (n := 4)).1 ?_
  refine callsIn_of_wp_marks Try.func59 rfl trivial ?_ rfl
  simp only [Try.ntmps59, List.size_toArray, List.length_cons, List.length_nil, Nat.reduceAdd, Nat.reduceSub, Array.replicate_succ, Array.replicate_zero, List.push_toArray, List.append_toArray, List.nil_append, List.cons_append]
  gi_wp2_with (refine ⟨trivial, ?_⟩; gi_at_call 75; refine (callsIn_wide.2 (frames75 _ _)).mono ?_; rintro e w' ⟨rfl, rfl⟩)
  have hsz : w.heap.size ≤ ((((w.alloc (.cells #[.slice none 0 0] 23)).alloc (.cells #[.int .i64 0] 3)).alloc (.cells #[.int .i64 0] 27)).alloc (.cells #[.string b] 9)).heap.size := by simp only [World.size_alloc]; omega
  refine wpIn_rangeFunc_state (F := Fence.wide) rfl (by decide) (gf := 78) (lb := #[.pointer (some ⟨w.heap.size + 1 + 1 + 1, 0, none⟩)]) rfl trivial (enters_of Try.func78 (by kernel_rfl) rfl)
    (encs := fun x : ByteArray => #[.string (nxt x).1, .int .i64 ((nxt x).2 : Nat)]) (fun _ => rfl)
    (Going b w b) (AtYield b w) (Went b w) (LeftBy b w) (Through b w) (going_firm hsz) (fun _ => atYield_firm hsz) (fun _ => went_firm hsz) (fun _ _ => left_firm hsz) (through_firm hsz)
    ⟨0, 0, _, [], rfl, by unfold rest; exact ext_all _ _ rfl, hold_start b w⟩
    (fun l Ready Left W hR hY h0 hr => frames_in b HB.out w l Ready Left W hR 2 hY h0 hr)
    (fun x => { tmps := #[.string b, undef, .pointer (some ⟨w.heap.size, 0, none⟩), .pointer (some ⟨w.heap.size + 1, 0, none⟩), .pointer (some ⟨w.heap.size + 1 + 1, 0, none⟩), .string (nxt x).1, .int .i64 ((nxt x).2 : Nat), .string b,
      .func (.func 78) #[] #[.pointer (some ⟨w.heap.size + 1 + 1 + 1, 0, none⟩)], .string (nxt x).1, .int .i64 ((nxt x).2 : Nat), undef, undef, undef, undef, undef, undef, undef, undef, undef, undef, undef, undef, undef, undef, undef, undef], defers := [] }) ?assign ?body ?done ?stop
  case assign =>
    intro l x W K hK
    gi_wp2
    exact hK
  case body =>
    rintro l x W ⟨hx0, k, p, v, ls, hst, hrest, hH⟩
    obtain ⟨s, er, hn⟩ : ∃ s er, nxt x = (s, er) := ⟨_, _, rfl⟩
    have HN := box hn
    rw [hn]
    dsimp only
    clear hn
    obtain ⟨a0, cap0, rfl⟩ := own_any hH.1.2.2.2.2
    have HH := box hH
    have ST := box hst
    have RR := box hrest
    have c0 : W.cell? ⟨w.heap.size, 0, none⟩ = some (.slice a0 ls.length cap0) := hH.1.1.cell 0
    have f0 : W.frozen? ⟨w.heap.size, 0, none⟩ = false := hH.1.1.frozen 0
    have c1 : W.cell? ⟨w.heap.size + 1, 0, none⟩ = some (.int .i64 p) := hH.1.2.1.cell 0
    have f1 : W.frozen? ⟨w.heap.size + 1, 0, none⟩ = false := hH.1.2.1.frozen 0
    have c2 : W.cell? ⟨w.heap.size + 1 + 1, 0, none⟩ = some (.int .i64 0) := hH.1.2.2.1.cell 0
    have f2 : W.frozen? ⟨w.heap.size + 1 + 1, 0, none⟩ = false := hH.1.2.2.1.frozen 0
    clear hst hrest hH
    by_cases he : er = 0
    · subst he
      have hsz2 := nxt_size (b := x) (by rw [HN.out])
      rw [HN.out] at hsz2
      dsimp only at hsz2
      have hxb := rest_size b p
      rw [RR.out] at hxb
      have hpl := st_le ST.out
      have hsl : s.size ≤ 1000000000 := by have := HB.out; omega
      have hpb : p ≤ 1000000000 := by have := HB.out; omega
      have hll : ls.length ≤ 1000000000 := by omega
      have SZ := box hsz2
      have hB4 : w.heap.size + 4 ≤ W.heap.size := by have := HH.out.1.2.2.2.1.lt; omega
      have hpx : 0 < b.size - p := by omega
      have HPX := box hpx
      clear hsz2 hxb hpl hpx
      obtain ⟨z9, hi, hz0, hz1, hz2⟩ := some9
      gi_wp2_with (gi_at_builtin; refine append_in W rfl (.tmp 16) (.tmp 18) 23 rfl (w.heap.size + 4) 9 z9 (.string ⟨#[]⟩) 1 16 Try.underlying23 hi hz0 hz1 hz2 rfl (by decide) _ _ _ rfl HH.out.1.2.2.2.2 [.string s] rfl rfl ?c2 ?c3 ?c4 hB4 ?_ rfl)
      case c2 => first | rfl | exact ⟨rfl⟩ | (intro u hu; simp at hu; subst hu; rfl)
      case c3 => unfold maxLen; omega
      case c4 => omega
      intro v1 w1 hown1 hbel1 hg1
      obtain ⟨g1, cap1, rfl⟩ := ownsRow_succ hown1
      have KK := box (keeps_append HH.out.1.2.2.2.2 hg1)
      have HM := box (HH.out.more s _ hown1 hbel1)
      have d0 := (hbel1.cell (p := ⟨w.heap.size, 0, none⟩) (by simp)).trans c0
      have e0 := (hbel1.frozen (p := ⟨w.heap.size, 0, none⟩) (by simp)).trans f0
      have d1 := (hbel1.cell (p := ⟨w.heap.size + 1, 0, none⟩) (by simp)).trans c1
      have e1 := (hbel1.frozen (p := ⟨w.heap.size + 1, 0, none⟩) (by simp)).trans f1
      clear hown1 hbel1 hg1
      gi_wp2_with fail
      refine ⟨(KK.out.trans (KeepsOthers.setCell _ _ _)).trans (KeepsOthers.setCell _ _ _), by rw [HN.out], k, _, _, _, ?_, ?_, ?_, HM.out⟩
      · have := st_step ST.out (by have := HPX.out; omega) (by rw [RR.out, HN.out])
        rw [RR.out, HN.out] at this
        rw [this, Nat.add_assoc]
      · rw [rest_rest, RR.out, HN.out]
      · rw [HN.out]; exact SZ.out
    · have t1 : ((er : Int) == 0) = false := by simp; omega
      have t2 : ((er : Int) != 0) = true := by simp; omega
      have HE := box he
      clear he
      have hmx : Try.prog.follows .mixedOrders = true := by kernel_rfl
      gi_wp2_with fail
      gi_region_with_o (fail)
      all_goals gi_wp2_with fail
      all_goals
        refine ⟨keeps_says _ _ _ _ _ _ _, rfl, p, .slice a0 ls.length cap0, ls, ⟨k, ST.out, .inr ⟨?_, ?_, ?_⟩⟩, ?_⟩
        · have h1 := rest_size b p
          rw [RR.out] at h1
          omega
        · rw [RR.out]
        · rw [HN.out]; exact HE.out
        · rw [HN.out]; exact HH.out.says er
  case done =>
    rintro D W hD ⟨p, v, l, R, hst, hH⟩ hK
    obtain ⟨a0, cap0, rfl⟩ := own_any hH.1.2.2.2.2
    have HH := box hH
    have ST := box hst
    have KK := box hK
    have c0 : W.cell? ⟨w.heap.size, 0, none⟩ = some (.slice a0 l.length cap0) := hH.1.1.cell 0
    have f0 : W.frozen? ⟨w.heap.size, 0, none⟩ = false := hH.1.1.frozen 0
    have c1 : W.cell? ⟨w.heap.size + 1, 0, none⟩ = some (.int .i64 p) := hH.1.2.1.cell 0
    have f1 : W.frozen? ⟨w.heap.size + 1, 0, none⟩ = false := hH.1.2.1.frozen 0
    have c2 : W.cell? ⟨w.heap.size + 1 + 1, 0, none⟩ = some (.int .i64 0) := hH.1.2.2.1.cell 0
    have f2 : W.frozen? ⟨w.heap.size + 1 + 1, 0, none⟩ = false := hH.1.2.2.1.frozen 0
    clear hst hH hK
    have hmx : Try.prog.follows .mixedOrders = true := by kernel_rfl
    gi_wp2_with fail
    gi_region_with_o (fail)
    all_goals gi_wp2_with fail
    all_goals
      have hH5 : Hold w (.slice a0 l.length cap0) l p 0 R (((W.setCell ⟨w.heap.size, 0, none⟩ (.slice a0 l.length cap0)).setCell ⟨w.heap.size + 1, 0, none⟩ (.int .i64 (p : Int))).setCell ⟨w.heap.size + 1 + 1, 0, none⟩ (.int .i64 0)).drew := HH.out.says 0
      have hK5 : ((((W.setCell ⟨w.heap.size, 0, none⟩ (.slice a0 l.length cap0)).setCell ⟨w.heap.size + 1, 0, none⟩ (.int .i64 (p : Int))).setCell ⟨w.heap.size + 1 + 1, 0, none⟩ (.int .i64 0)).drew).heap[D]? = some (.deferred (some [])) := (keeps_says W _ _ _ _ _ _).same D _ KK.out rfl
      generalize (((W.setCell ⟨w.heap.size, 0, none⟩ (.slice a0 l.length cap0)).setCell ⟨w.heap.size + 1, 0, none⟩ (.int .i64 (p : Int))).setCell ⟨w.heap.size + 1 + 1, 0, none⟩ (.int .i64 0)).drew = W5 at hH5 hK5 ⊢
      obtain ⟨x0, x1, x2, hS⟩ := scan_post ST.out hH5 (by simp only [World.size_alloc] at hD; omega) hK5
      refine ⟨by simp, .inl ⟨_, _, rfl, run_takeDeferred hK5, _, ?_, hS⟩⟩
      simp [results, Try.f59, go_sem, x0, x1, x2]
  case stop =>
    rintro D c x W hD ⟨rfl, p, v, l, hst, hH⟩ hK
    gi_wp2_with fail
    obtain ⟨x0, x1, x2, hS⟩ := scan_post hst hH (by simp only [World.size_alloc] at hD; omega) hK
    refine ⟨by simp, .inl ⟨_, _, rfl, run_takeDeferred hK, _, ?_, hS⟩⟩
    simp [results, Try.f59, go_sem, x0, x1, x2]
end Go.Proofs.Ytafialodjnjihaa
