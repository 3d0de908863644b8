/- Strings made of a row of bytes or of runes that the call itself owns. No condition but that the runes are ASCII. -/
import Derived.Test.YtafialodjnjihaaKit
import Derived.Test.YtafialodjnjihaaProg
import Derived.Laws.Cover4
namespace Go.Proofs.Ytafialodjnjihaa
open Go Go.RowKit
set_option linter.unusedVariables false

theorem info5 : (Try.prog.info? 5).map (fun i => (i.zero, i.size, i.bytes)) = some (some (.int .u8 0), 1, 1) := by kernel_rfl
theorem info21 : (Try.prog.info? 21).map (fun i => (i.zero, i.size, i.bytes)) = some (some (.int .i32 0), 1, 4) := by kernel_rfl

def byteV (b : UInt8) : Value := .int .u8 b.toNat
def runeV (b : UInt8) : Value := .int .i32 b.toNat

theorem addr_add0 (g j : Nat) : (⟨g, 0, none⟩ : Addr).add j = ⟨g, j, none⟩ := by
  unfold Addr.add; split <;> simp_all

theorem str_of_row {w : World} {base : Nat} {v : Value} (l : List UInt8) (h : w.ownsRow base 5 1 v l.length (l.map byteV)) :
    (convert 24 9 v).run Try.prog w = .ok (.string ⟨l.toArray⟩) w := by
  rcases h.2 with ⟨rfl, h0⟩ | ⟨g, cap, cur, rfl, _, _, _, _, _, _⟩
  · obtain rfl : l = [] := List.eq_nil_of_length_eq_zero h0
    rw [run_convert_bytes_nil w 24 5 Try.underlying24 Try.underlying5 0 0 9 Try.underlying9]; rfl
  · refine run_convert_bytes_back (P := Try.prog) w 24 9 5 ⟨g, 0, none⟩ cap l Try.underlying24 Try.underlying5 Try.underlying9 (fun j hj => ?_)
    rw [addr_add0, h.cellAt j (by omega)]
    simp [hj, byteV]

theorem foldl_runes (l : List UInt8) (h : ∀ b ∈ l, b.toNat < 128) : ∀ r : ByteArray, (l.map (fun b => (b.toNat : Int))).foldl (fun r n => r ++ Utf8.encode n) r = ⟨r.data ++ l.toArray⟩ := by
  induction l with
  | nil => intro r; simp
  | cons b l ih =>
    intro r
    have hb : b.toNat < 128 := h b (by simp)
    have e : Utf8.encode (b.toNat : Int) = ⟨#[b]⟩ := by
      unfold Utf8.encode
      have hv : Utf8.valid (b.toNat : Int) = true := by unfold Utf8.valid; simp; omega
      simp [hv, hb]
    simp only [List.map_cons, List.foldl_cons, e]
    rw [ih (fun x hx => h x (by simp [hx]))]
    have e2 : (r ++ (⟨#[b]⟩ : ByteArray)).data = r.data ++ #[b] := by rw [ByteArray.data_append]
    have e3 : (b :: l).toArray = #[b] ++ l.toArray := by simp
    rw [e2, e3, Array.append_assoc]

theorem str_of_runes {w : World} {base : Nat} {v : Value} (l : List UInt8) (hl : ∀ b ∈ l, b.toNat < 128) (h : w.ownsRow base 21 1 v l.length (l.map runeV)) :
    (convert 91 9 v).run Try.prog w = .ok (.string ⟨l.toArray⟩) w := by
  rcases h.2 with ⟨rfl, h0⟩ | ⟨g, cap, cur, rfl, _, _, _, _, _, _⟩
  · obtain rfl : l = [] := List.eq_nil_of_length_eq_zero h0
    rw [run_convert_runes_string w 91 9 21 _ _ _ Try.underlying91 Try.underlying21 Try.underlying9]
    simp [Conv.runesToString, Sem.run_pure]; rfl
  · rw [run_convert_runes_string w 91 9 21 _ _ _ Try.underlying91 Try.underlying21 Try.underlying9]
    have hc := run_loadCells_list (P := Try.prog) w ⟨g, 0, none⟩ ((l.map (fun b => (b.toNat : Int))).map (Value.int .i32)) (fun j u hj => by
      have hj' : j < l.length := by
        have := (List.getElem?_eq_some_iff.1 hj).1
        simpa using this
      rw [addr_add0, h.cellAt j (by omega)]
      rw [← hj]
      simp; rfl)
    simp only [List.length_map] at hc
    rw [run_runesToString w ⟨g, 0, none⟩ l.length cap (l.map (fun b => (b.toNat : Int))) hc]
    unfold runesBytes
    rw [foldl_runes l hl]
    have e0 : ByteArray.empty.data = #[] := rfl
    rw [e0, Array.empty_append]

end Go.Proofs.Ytafialodjnjihaa
