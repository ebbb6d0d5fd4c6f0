/- BagNil, walked. -/
import Derived.Test.YtjcbikkihijkiaaBgS
namespace Go.Proofs.Ytjcbikkihijkiaa
open Go.RowKit
set_option maxHeartbeats 4000000 in
set_option maxRecDepth 100000 in
theorem bnil_any (n : Int) (ov : Bool) (w : World) : Calls Try.prog 5 #[.agg #[.int .i64 n, .bool ov]] w fun e w' => e = .returned (.bool true) ∧ Below w.heap.size w w' := by
  have HB := Lib.hid (below_alloc (Below.refl w.heap.size w) (Obj.cells #[.int .i64 (n), .bool ov] 29))
  have HX := Lib.hid (newB w (Obj.cells #[.int .i64 (n), .bool ov] 29))
  have m0 := cellAt (o := 0) HX.out rfl
  have m1 := cellAt (o := 1) HX.out rfl
  go_enter Try.func5, Try.ntmps5
  go_wp2_with fail
  refine (lives_any _).mono ?_; rintro e w3 ⟨rfl, hb⟩; replace HB := Lib.hid (HB.out.trans (hb.mono HB.out.size)); replace HX := Lib.hid (keepB HX.out hb); clear hb m0 m1; have m0 := cellAt (o := 0) HX.out rfl; have m1 := cellAt (o := 1) HX.out rfl; go_wp2_with fail
  refine (bleast_nil _).mono ?_
  rintro e w2 ⟨rfl, hb⟩
  unfold endP
  replace HX := Lib.hid (keepA (keepB HX.out hb) (Obj.cells #[.int .i64 (0), .bool false] 29))
  replace HB := Lib.hid (HB.out.trans ((hb.trans ((below_alloc (Below.refl w2.heap.size w2) (Obj.cells #[.int .i64 (0), .bool false] 29)).mono hb.size)).mono HB.out.size))
  clear hb m0 m1
  go_wp2_with fail
  refine (bmost_nil _).mono ?_
  rintro e w4 ⟨rfl, hb⟩
  unfold endP
  replace HX := Lib.hid (keepA (keepB HX.out hb) (Obj.cells #[.int .i64 (0), .bool false] 29))
  replace HB := Lib.hid (HB.out.trans ((hb.trans ((below_alloc (Below.refl w4.heap.size w4) (Obj.cells #[.int .i64 (0), .bool false] 29)).mono hb.size)).mono HB.out.size))
  have m0 := cellAt (o := 0) HX.out rfl
  have m1 := cellAt (o := 1) HX.out rfl
  clear hb
  go_wp2_with fail
  refine (bput_nil n ov _).mono ?_; rintro e w3 ⟨rfl, hb⟩; replace HB := Lib.hid (HB.out.trans (hb.mono HB.out.size)); replace HX := Lib.hid (keepB HX.out hb); clear hb m0 m1; have m0 := cellAt (o := 0) HX.out rfl; have m1 := cellAt (o := 1) HX.out rfl; go_wp2_with fail
  refine (btake_nil n ov _).mono ?_; rintro e w3 ⟨rfl, hb⟩; replace HB := Lib.hid (HB.out.trans (hb.mono HB.out.size)); replace HX := Lib.hid (keepB HX.out hb); clear hb m0 m1; have m0 := cellAt (o := 0) HX.out rfl; have m1 := cellAt (o := 1) HX.out rfl; go_wp2_with fail
  refine (blen_nil _).mono ?_; rintro e w3 ⟨rfl, hb⟩; replace HB := Lib.hid (HB.out.trans (hb.mono HB.out.size)); replace HX := Lib.hid (keepB HX.out hb); clear hb m0 m1; have m0 := cellAt (o := 0) HX.out rfl; have m1 := cellAt (o := 1) HX.out rfl; go_wp2_with fail
  refine (bcount_nil n ov _).mono ?_; rintro e w3 ⟨rfl, hb⟩; replace HB := Lib.hid (HB.out.trans (hb.mono HB.out.size)); replace HX := Lib.hid (keepB HX.out hb); clear hb m0 m1; have m0 := cellAt (o := 0) HX.out rfl; have m1 := cellAt (o := 1) HX.out rfl; go_wp2_with fail
  refine (bplace_nil n _).mono ?_; rintro e w3 ⟨rfl, hb⟩; replace HB := Lib.hid (HB.out.trans (hb.mono HB.out.size)); replace HX := Lib.hid (keepB HX.out hb); clear hb m0 m1; have m0 := cellAt (o := 0) HX.out rfl; have m1 := cellAt (o := 1) HX.out rfl; go_wp2_with fail
  refine (bcounts_nil _).mono ?_
  rintro e w3 ⟨v, rfl, hr, hb⟩
  obtain ⟨a, cap, rfl⟩ := ownsRow_form hr
  replace HB := Lib.hid (HB.out.trans (hb.mono HB.out.size))
  clear hb hr m0 m1 HX
  go_wp2_with fail
  refine (bbytes_nil _).mono ?_
  rintro e w3 ⟨rfl, hb⟩
  replace HB := Lib.hid (HB.out.trans (hb.mono HB.out.size))
  clear hb
  go_wp2_with fail
  go_ret
  exact ⟨rfl, HB.out⟩
end Go.Proofs.Ytjcbikkihijkiaa
