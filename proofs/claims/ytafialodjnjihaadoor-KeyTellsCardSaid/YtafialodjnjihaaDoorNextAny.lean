/- The reference's next as a step of reading a key. Conditions: the text is at most 65536 bytes long and not empty. -/
import Derived.Test.YtafialodjnjihaaDoorNext
namespace Go.Proofs.YtafialodjnjihaaDoor
open Go Go.RowKit Go.BigFrame
set_option maxRecDepth 100000
set_option linter.unusedVariables false

theorem reads_text2 {s r : List UInt8} {l : List Val} {c : UInt8} {t : ByteArray} {n : Nat} (h : Reads s (c :: r) false l) (hc : c = 5 ∨ c = 6) (hT : ∀ l0 r2, r = Kl.esc l0 ++ 0 :: 1 :: r2 → t = ⟨l0.toArray⟩ ∧ n = (Kl.esc l0).length + 2) :
    Reads s (r.drop n) false (l ++ [⟨c.toNat - 1, 0, 0, t⟩]) :=
  h.step fun x r2 hm ho hc' hr => by
    have k := kind_of hm hc'
    have K : x.kind = 4 ∨ x.kind = 5 := by
      rcases hc with rfl | rfl
      · left; simpa using k
      · right; simpa using k
    have a := may45_of K hm
    rw [tail_text K] at hr
    obtain ⟨rfl, rfl⟩ := hT _ _ hr
    refine ⟨rfl, ?_, ?_⟩
    · obtain ⟨k', i, r', t⟩ := x
      dsimp only at *
      rw [a.1, a.2.1, ← k]; rfl
    · rw [hr, ← List.drop_drop, List.drop_left]; rfl
theorem reads_text2_bad {s r : List UInt8} {l : List Val} {c : UInt8} (h : Reads s (c :: r) false l) (hc : c = 5 ∨ c = 6) (hT : ∀ l0 r2, r ≠ Kl.esc l0 ++ 0 :: 1 :: r2) (rest' : List UInt8) (v : Val) : Reads s rest' true (l ++ [v]) :=
  h.step fun x r2 hm ho hc' hr => by
    have k := kind_of hm hc'
    have K : x.kind = 4 ∨ x.kind = 5 := by
      rcases hc with rfl | rfl
      · left; simpa using k
      · right; simpa using k
    rw [tail_text K] at hr
    exact absurd hr (hT _ _)
/-- What next tells: the next value and how long its key is, or that no row has such a key. -/
def NextSays (s : ByteArray) (w : World) (e : Ending) (w' : World) : Prop :=
  ∃ v : Val, (v.Ok ∧ v.text.size ≤ 140737488355328) ∧ Below w.heap.size w w' ∧
    ((e = .returned (.tuple #[v.v, .int .i64 (-1)]) ∧ ∀ S l, Reads S s.data.toList false l → ∀ m, Good m → keyL m ≠ S) ∨
      ∃ N : Nat, e = .returned (.tuple #[v.v, .int .i64 N]) ∧ 1 ≤ N ∧ N ≤ s.size ∧ ∀ S l, Reads S s.data.toList false l → Reads S (s.data.toList.drop N) false (l ++ [v]))
theorem next_bad {s : ByteArray} {w w' : World} {e : Ending} (v : Val) (hv : v.Ok ∧ v.text.size ≤ 140737488355328) (hb : Below w.heap.size w w') (he : e = .returned (.tuple #[v.v, .int .i64 (-1)]))
    (h : ∀ S l, Reads S s.data.toList false l → Reads S [] true (l ++ [v])) : NextSays s w e w' :=
  ⟨v, hv, hb, .inl ⟨he, fun S l hr m hm hs => (h S l hr).bad m hm hs⟩⟩
theorem next_good {s : ByteArray} {w w' : World} {e : Ending} (v : Val) (N : Nat) (hv : v.Ok ∧ v.text.size ≤ 140737488355328) (hb : Below w.heap.size w w') (he : e = .returned (.tuple #[v.v, .int .i64 N])) (h1 : 1 ≤ N) (h2 : N ≤ s.size)
    (h : ∀ S l, Reads S s.data.toList false l → Reads S (s.data.toList.drop N) false (l ++ [v])) : NextSays s w e w' :=
  ⟨v, hv, hb, .inr ⟨N, he, h1, h2, h⟩⟩
theorem extract19 {s : ByteArray} {c : UInt8} {r : List UInt8} (h : s.data.toList = c :: r) : (s.extract 1 9).data.toList = r.take 8 := by
  simp [h]
theorem next_any (s : ByteArray) (w : World) (hs : s.size ≤ 65536) (h0 : 0 < s.size) : Calls Tryd.prog 59 #[.string s] w (NextSays s w) := by
  obtain ⟨c, r, hcr⟩ := cons_size h0
  have hsz : s.size = r.length + 1 := by rw [← list_size, hcr]; simp
  have hc0 : ∀ h : 0 < s.size, s[0]'h = c := by
    intro h
    have : s[0] = s.data.toList[0]'h := rfl
    rw [this]; simp [hcr]
  have hcn : ∀ k, c.toNat = k → ∀ h : 0 < s.size, (s[0]'h).toNat = k := fun k hk h => by rw [hc0 h]; exact hk
  have hN := c.toNat_lt
  have ebyte : ∀ k : UInt8, c.toNat = k.toNat → c = k := fun k h => UInt8.toNat_inj.1 h
  rcases (show c.toNat = 0 ∨ c.toNat = 1 ∨ c.toNat = 2 ∨ c.toNat = 3 ∨ c.toNat = 4 ∨ c.toNat = 5 ∨ c.toNat = 6 ∨ 7 ≤ c.toNat by omega) with K | K | K | K | K | K | K | K
  · refine (nextZ s w h0 (hcn _ K)).mono ?_
    rintro e w' ⟨he, hb⟩
    refine next_bad (nul 0) (nul_ok 0 (by omega)) hb he (fun S l hr => ?_)
    rw [hcr] at hr
    exact reads_other hr (.inl K) _ _ _
  · obtain rfl := ebyte 1 K
    refine (nextNull s w h0 (hcn _ K)).mono ?_
    rintro e w' ⟨he, hb⟩
    refine next_good (nul 0) 1 (nul_ok 0 (by omega)) hb he (by omega) (by omega) (fun S l hr => ?_)
    rw [hcr] at hr ⊢
    exact reads_null hr
  · obtain rfl := ebyte 2 K
    by_cases h2 : 2 ≤ s.size
    · cases r with
      | nil => simp at hsz; omega
      | cons b r =>
        have hb1 : s[1]'(by omega) = b := by
          have : s[1]'(by omega) = s.data.toList[1]'(by show 1 < s.data.toList.length; rw [list_size]; omega) := rfl
          rw [this]; simp [hcr]
        refine (nextBool s w h0 (hcn _ K) h2).mono ?_
        rintro e w' ⟨he, hb⟩
        rw [hb1] at he
        have hlt := b.toNat_lt
        refine next_good ⟨1, b.toNat, 0, ⟨#[]⟩⟩ 2 (val_ok 1 _ 0 ⟨#[]⟩ (by omega) (by omega) (by omega) (by show 0 ≤ _; omega)) hb he (by omega) h2 (fun S l hr => ?_)
        rw [hcr] at hr ⊢
        exact reads_bool hr
    · obtain rfl : r = [] := List.eq_nil_of_length_eq_zero (by omega)
      refine (nextBoolS s w h0 (hcn _ K) (by omega)).mono ?_
      rintro e w' ⟨he, hb⟩
      refine next_bad (nul 1) (nul_ok 1 (by omega)) hb he (fun S l hr => ?_)
      rw [hcr] at hr
      exact reads_bool_bad hr _ _
  · obtain rfl := ebyte 3 K
    by_cases h9 : 9 ≤ s.size
    · have hq := extract19 hcr
      have hz8 := num8 r
      refine (nextInt s w h0 (hcn _ K) h9 _ rfl (Kl.num (r.take 8)) (by rw [hq]) hz8).mono ?_
      rintro e w' ⟨he, hb⟩
      refine next_good ⟨2, (Kl.num (r.take 8) : Int) - 9223372036854775808, 0, ⟨#[]⟩⟩ 9 (val_ok 2 _ 0 ⟨#[]⟩ (by omega) (by omega) (by omega) (by show 0 ≤ _; omega)) hb he (by omega) h9 (fun S l hr => ?_)
      rw [hcr] at hr ⊢
      have h := reads_int hr
      rw [decide_eq_false (by omega)] at h
      exact h
    · refine (nextIntS s w h0 (hcn _ K) (by omega)).mono ?_
      rintro e w' ⟨he, hb⟩
      refine next_bad (nul 2) (nul_ok 2 (by omega)) hb he (fun S l hr => ?_)
      rw [hcr] at hr
      exact reads_num_bad hr (.inl rfl) (by omega) _ _
  · obtain rfl := ebyte 4 K
    by_cases h9 : 9 ≤ s.size
    · have hq := extract19 hcr
      have hz8 := num8 r
      have hXl := back_lt (Kl.num (r.take 8)) hz8
      have hEr := back_err (Kl.num (r.take 8))
      obtain ⟨X, Er, hX⟩ : ∃ X Er, back (Kl.num (r.take 8)) = (X, Er) := ⟨_, _, rfl⟩
      rw [hX] at hXl hEr
      dsimp only at hXl hEr
      rcases hEr with rfl | rfl
      · refine (nextReal0 s w h0 (hcn _ K) h9 _ rfl (Kl.num (r.take 8)) X (by rw [hq]) hz8 hX).mono ?_
        rintro e w' ⟨he, hb⟩
        refine next_good ⟨3, 0, X, ⟨#[]⟩⟩ 9 (val_ok 3 0 X ⟨#[]⟩ (by omega) (by omega) hXl (by show 0 ≤ _; omega)) hb he (by omega) h9 (fun S l hr => ?_)
        rw [hcr] at hr ⊢
        have h := reads_real hr
        rw [decide_eq_false (by omega), hX] at h
        exact h
      · refine (nextReal2 s w h0 (hcn _ K) h9 _ rfl (Kl.num (r.take 8)) X (by rw [hq]) hz8 hX).mono ?_
        rintro e w' ⟨he, hb⟩
        refine next_bad (nul 3) (nul_ok 3 (by omega)) hb he (fun S l hr => ?_)
        rw [hcr] at hr
        have h := reads_real hr
        rw [hX] at h
        have h2 : Reads S (r.drop 8) true (l ++ [⟨3, 0, X, ⟨#[]⟩⟩]) := by simpa using h
        intro m hm hs
        exact (h2.bad m hm hs).elim
    · refine (nextRealS s w h0 (hcn _ K) (by omega)).mono ?_
      rintro e w' ⟨he, hb⟩
      refine next_bad (nul 3) (nul_ok 3 (by omega)) hb he (fun S l hr => ?_)
      rw [hcr] at hr
      exact reads_num_bad hr (.inr rfl) (by omega) _ _
  · obtain rfl := ebyte 5 K
    have hq : (s.extract 1 s.size).data.toList = r := by rw [Lib.extract_to_end, hcr]; rfl
    have hqs : (s.extract 1 s.size).size = r.length := by rw [← list_size, hq]
    refine (nextText4 s w h0 (hcn _ K) hs _ rfl).mono ?_
    rintro e w' ⟨hb, ⟨he, hno⟩ | ⟨t, n, he, ht, hn, hT⟩⟩
    · refine next_bad (nul 4) (nul_ok 4 (by omega)) hb he (fun S l hr => ?_)
      rw [hcr] at hr
      rw [hq] at hno
      exact reads_text2_bad hr (.inl rfl) hno _ _
    · refine next_good ⟨4, 0, 0, t⟩ (1 + n) (val_ok 4 0 0 t (by omega) (by omega) (by omega) (by omega)) hb he (by omega) (by omega) (fun S l hr => ?_)
      rw [hcr] at hr ⊢
      rw [hq] at hT
      have h := reads_text2 hr (.inl rfl) hT
      rw [Nat.add_comm 1 n]
      exact h
  · obtain rfl := ebyte 6 K
    have hq : (s.extract 1 s.size).data.toList = r := by rw [Lib.extract_to_end, hcr]; rfl
    have hqs : (s.extract 1 s.size).size = r.length := by rw [← list_size, hq]
    refine (nextText5 s w h0 (hcn _ K) hs _ rfl).mono ?_
    rintro e w' ⟨hb, ⟨he, hno⟩ | ⟨t, n, he, ht, hn, hT⟩⟩
    · refine next_bad (nul 5) (nul_ok 5 (by omega)) hb he (fun S l hr => ?_)
      rw [hcr] at hr
      rw [hq] at hno
      exact reads_text2_bad hr (.inr rfl) hno _ _
    · refine next_good ⟨5, 0, 0, t⟩ (1 + n) (val_ok 5 0 0 t (by omega) (by omega) (by omega) (by omega)) hb he (by omega) (by omega) (fun S l hr => ?_)
      rw [hcr] at hr ⊢
      rw [hq] at hT
      have h := reads_text2 hr (.inr rfl) hT
      rw [Nat.add_comm 1 n]
      exact h
  · obtain ⟨N, hN1⟩ : ∃ N, c.toNat = N + 1 := ⟨c.toNat - 1, by omega⟩
    refine (nextOther s w N h0 (hcn _ hN1) (by omega) (by omega)).mono ?_
    rintro e w' ⟨he, hb⟩
    refine next_bad (nul N) (nul_ok N (by omega)) hb he (fun S l hr => ?_)
    rw [hcr] at hr
    exact reads_other hr (.inr K) _ _ _
end Go.Proofs.YtafialodjnjihaaDoor
