/- SlideNil, walked. -/
import Derived.Test.YtbhkgnhgecchcaaSlS
namespace Go.Proofs.Ytbhkgnhgecchcaa
open Go.RowKit
set_option maxHeartbeats 4000000 in
set_option maxRecDepth 100000 in
theorem snil_any (t n : Int) (w : World) : Calls Try.prog 3 #[.int .i64 t, .int .i64 n] w fun e w' => e = .returned (.bool true) ∧ Below w.heap.size w w' := by
  have HB := Lib.hid (Below.refl w.heap.size w)
  go_enter Try.func3, Try.ntmps3
  go_wp2_with fail; refine (lives_any _).mono ?_; rintro e w1 ⟨rfl, hb⟩; replace HB := Lib.hid (HB.out.trans (hb.mono HB.out.size)); clear hb
  go_wp2_with fail
  refine (value_nil _).mono ?_
  rintro e w2 ⟨rfl, hb⟩
  have HX := Lib.hid (newB w2 (.cells #[.int .i64 0, .bool false] 25))
  replace HB := Lib.hid (HB.out.trans ((hb.trans ((below_alloc (Below.refl w2.heap.size w2) (.cells #[.int .i64 0, .bool false] 25)).mono hb.size)).mono HB.out.size))
  clear hb
  go_wp2_with fail; refine (push_nil t n _).mono ?_; rintro e w3 ⟨rfl, hb⟩; replace HB := Lib.hid (HB.out.trans (hb.mono HB.out.size)); replace HX := Lib.hid (keepB HX.out hb); clear hb
  go_wp2_with fail; refine (go_nil t _).mono ?_; rintro e w3 ⟨rfl, hb⟩; replace HB := Lib.hid (HB.out.trans (hb.mono HB.out.size)); replace HX := Lib.hid (keepB HX.out hb); clear hb
  have m0 := cellAt (o := 0) HX.out rfl
  have m1 := cellAt (o := 1) HX.out rfl
  go_wp2_with fail; refine (len_nil _).mono ?_; rintro e w3 ⟨rfl, hb⟩; replace HB := Lib.hid (HB.out.trans (hb.mono HB.out.size)); replace HX := Lib.hid (keepB HX.out hb); clear hb
  clear m0 m1
  go_wp2_with fail; refine (time_nil _).mono ?_; rintro e w3 ⟨rfl, hb⟩; replace HB := Lib.hid (HB.out.trans (hb.mono HB.out.size)); replace HX := Lib.hid (keepB HX.out hb); clear hb
  go_wp2_with fail; refine (points_nil _).mono ?_; rintro e w3 ⟨rfl, hb⟩; replace HB := Lib.hid (HB.out.trans (hb.mono HB.out.size)); replace HX := Lib.hid (keepB HX.out hb); clear hb
  go_wp2_with fail; refine (bytes_nil _).mono ?_; rintro e w3 ⟨rfl, hb⟩; replace HB := Lib.hid (HB.out.trans (hb.mono HB.out.size)); replace HX := Lib.hid (keepB HX.out hb); clear hb
  go_wp2_with fail
  go_ret
  exact ⟨rfl, HB.out⟩
end Go.Proofs.Ytbhkgnhgecchcaa
