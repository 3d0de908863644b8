/- The chapter's examples of the inlet: alive returns true and leaves what lay before as it was. No condition. -/
import Derived.Test.YtafialodjnjihaaInlet
namespace Go.Proofs.Ytafialodjnjihaa
open Go Go.RowKit
set_option maxRecDepth 100000
set_option maxHeartbeats 1000000 in
theorem alive22 (w : World) : Calls Try.prog 17 #[] w fun e w' => e = .returned (.bool true) ∧ Below w.heap.size w w' := by
  go_enter Try.func17, Try.ntmps17
  go_wp2_with fail
  refine (new_ok 3 _ (by omega)).mono ?_
  rintro e w1 ⟨rfl, hw1⟩
  have b1 : Below w.heap.size w w1 := hw1 ▸ Below.alloc (Below.refl _ _) (Nat.le_refl _) _
  have x1 : Whole1 w1 w.heap.size 86 #[.int .i64 0, .int .i64 0, .int .i64 0, .int .u64 3] := hw1 ▸ Whole1.made _ _ _
  have X1 := Lib.hid x1; clear hw1 x1
  have B1 := Lib.hid b1; clear b1
  go_wp2_with fail
  refine (rec_any 3 _ (by omega) (by omega)).mono ?_
  rintro e w2 ⟨rfl, hb⟩
  have X2 := Lib.hid (X1.out.below hb X1.out.lt)
  have B2 := Lib.hid (B1.out.trans (hb.mono B1.out.size))
  clear hb X1 B1
  go_wp2_with fail
  refine (take_fresh w.heap.size 0 0 0 3 3 4 ⟨#[]⟩ _ rfl (by omega) (by omega) (by decide) (by decide) (by omega) (by omega) (by omega) (by omega) X2.out).mono ?_
  rintro e w3 ⟨rfl, hx, hg⟩
  have X3 := Lib.hid hx
  have B3 := Lib.hid (Below.grown B2.out hg B2.out.size (fun i hi => by injection hi with hi; omega))
  clear hx hg X2 B2
  go_wp2_with fail
  refine (rec_any 3 _ (by omega) (by omega)).mono ?_
  rintro e w4 ⟨rfl, hb⟩
  have X4 := Lib.hid (X3.out.below hb X3.out.lt)
  have B4 := Lib.hid (B3.out.trans (hb.mono B3.out.size))
  clear hb X3 B3
  go_wp2_with fail
  refine (take_again w.heap.size 1 0 0 4 3 4 ⟨#[]⟩ _ rfl (by omega) (by omega) (by omega) (by omega) (by omega) X4.out).mono ?_
  rintro e w5 ⟨rfl, hx, hg⟩
  have X5 := Lib.hid hx
  have B5 := Lib.hid (Below.grown B4.out hg B4.out.size (fun i hi => by injection hi with hi; omega))
  clear hx hg X4 B4
  go_wp2_with fail
  refine (rec_any 5 _ (by omega) (by omega)).mono ?_
  rintro e w6 ⟨rfl, hb⟩
  have X6 := Lib.hid (X5.out.below hb X5.out.lt)
  have B6 := Lib.hid (B5.out.trans (hb.mono B5.out.size))
  clear hb X5 B5
  go_wp2_with fail
  refine (take_gap w.heap.size 1 1 0 4 5 6 ⟨#[]⟩ _ rfl (by omega) (by omega) (by decide) (by omega) (by omega) (by omega) X6.out).mono ?_
  rintro e w7 ⟨rfl, hx, hg⟩
  have X7 := Lib.hid hx
  have B7 := Lib.hid (Below.grown B6.out hg B6.out.size (fun i hi => by injection hi with hi; omega))
  clear hx hg X6 B6
  go_wp2_with fail
  refine (rec_any 2 _ (by omega) (by omega)).mono ?_
  rintro e w8 ⟨rfl, hb⟩
  have X8 := Lib.hid (X7.out.below hb X7.out.lt)
  have B8 := Lib.hid (B7.out.trans (hb.mono B7.out.size))
  clear hb X7 B7
  go_wp2_with fail
  refine (take_again w.heap.size 1 1 1 4 2 3 ⟨#[]⟩ _ rfl (by omega) (by omega) (by omega) (by omega) (by omega) X8.out).mono ?_
  rintro e w9 ⟨rfl, hx, hg⟩
  have X9 := Lib.hid hx
  have B9 := Lib.hid (Below.grown B8.out hg B8.out.size (fun i hi => by injection hi with hi; omega))
  clear hx hg X8 B8
  go_wp2_with fail
  refine (counts_any w.heap.size 1 2 1 4 _ X9.out).mono ?_
  rintro e w10 ⟨rfl, q, rfl⟩
  have X10 := Lib.hid (X9.out.drewN q)
  have B10 := Lib.hid (below_drewN B9.out q)
  go_wp2_with fail
  refine (take_seq w.heap.size 4 4 ⟨#[]⟩ _ (by omega) (by omega) (by decide)).mono ?_
  rintro e w11 ⟨rfl, hw⟩
  have X11 : Hid (Whole1 w11 w.heap.size 86 #[.int .i64 1, .int .i64 2, .int .i64 1, .int .u64 4]) := Lib.hid (hw ▸ X10.out.alloc _)
  have B11 : Hid (Below w.heap.size w w11) := Lib.hid (hw ▸ Below.alloc B10.out B10.out.size _)
  clear hw
  go_wp2_with fail
  refine (next_any w.heap.size 1 2 1 4 _ X11.out).mono ?_
  rintro e w12 ⟨rfl, rfl⟩
  go_wp2_with fail
  go_ret
  exact ⟨rfl, B11.out⟩

end Go.Proofs.Ytafialodjnjihaa
