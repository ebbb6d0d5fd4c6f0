/- BufferNil, BufferNames, walked. -/
import Derived.Test.YtfblmmnofhkkaaaBfS
namespace Go.Proofs.Ytfblmmnofhkkaaa
open Go.RowKit
set_option maxHeartbeats 4000000 in
set_option maxRecDepth 100000 in
theorem bufnil_any (t n : Int) (w : World) : Calls Try.prog 8 #[.int .i64 t, .int .i64 n] w fun e w' => e = .returned (.bool true) ∧ Below w.heap.size w w' := by
  have HB := Lib.hid (Below.refl w.heap.size w)
  go_enter Try.func8, Try.ntmps8
  go_wp2_with fail
  refine (lives_any _).mono ?_; rintro e w3 ⟨rfl, hb⟩; replace HB := Lib.hid (HB.out.trans (hb.mono HB.out.size)); clear hb; go_wp2_with fail
  refine (bat_nil _ t).mono ?_; rintro e w3 ⟨rfl, hb⟩; replace HB := Lib.hid (HB.out.trans (hb.mono HB.out.size)); clear hb; go_wp2_with fail
  refine (blast_nil _ t).mono ?_
  rintro e w2 ⟨rfl, hb⟩
  have HX := Lib.hid (newB w2 (.cells #[.int .i64 0, .int .i64 0, .bool false] 45))
  replace HB := Lib.hid (below_alloc (HB.out.trans (hb.mono HB.out.size)) (.cells #[.int .i64 0, .int .i64 0, .bool false] 45))
  obtain ⟨x, hx⟩ : ∃ x, w2.heap.size = x := ⟨_, rfl⟩
  rw [hx] at HX
  clear hb
  go_wp2_with fail
  clear hx
  refine (btrim_nil _ n).mono ?_; rintro e w3 ⟨rfl, hb⟩; replace HB := Lib.hid (HB.out.trans (hb.mono HB.out.size)); replace HX := Lib.hid (keepB HX.out hb); clear hb; have c0 := cellAt (o := 0) HX.out rfl; have c1 := cellAt (o := 1) HX.out rfl; have c2 := cellAt (o := 2) HX.out rfl; go_wp2_with fail; try clear c0 c1 c2
  refine (bends_nil _).mono ?_; rintro e w3 ⟨rfl, hb⟩; replace HB := Lib.hid (HB.out.trans (hb.mono HB.out.size)); replace HX := Lib.hid (keepB HX.out hb); clear hb; have c0 := cellAt (o := 0) HX.out rfl; have c1 := cellAt (o := 1) HX.out rfl; have c2 := cellAt (o := 2) HX.out rfl; go_wp2_with fail; try clear c0 c1 c2
  refine (bput_nil _ t n).mono ?_; rintro e w3 ⟨rfl, hb⟩; replace HB := Lib.hid (HB.out.trans (hb.mono HB.out.size)); replace HX := Lib.hid (keepB HX.out hb); clear hb; have c0 := cellAt (o := 0) HX.out rfl; have c1 := cellAt (o := 1) HX.out rfl; have c2 := cellAt (o := 2) HX.out rfl; go_wp2_with fail; try clear c0 c1 c2
  refine (blen_nil _).mono ?_; rintro e w3 ⟨rfl, hb⟩; replace HB := Lib.hid (HB.out.trans (hb.mono HB.out.size)); clear hb; go_wp2_with fail
  refine (bfloor_nil _).mono ?_; rintro e w3 ⟨rfl, hb⟩; replace HB := Lib.hid (HB.out.trans (hb.mono HB.out.size)); clear hb; go_wp2_with fail
  refine (bpts_nil _).mono ?_
  rintro e w3 ⟨v, rfl, hr, hb⟩
  obtain ⟨a, cap, rfl⟩ := or_form hr
  replace HB := Lib.hid (HB.out.trans (hb.mono HB.out.size))
  clear hb hr
  go_wp2_with fail
  refine (brange_nil t n _).mono ?_
  rintro e w3 ⟨v, rfl, hr, hb⟩
  obtain ⟨a, cap, rfl⟩ := or_form hr
  replace HB := Lib.hid (HB.out.trans (hb.mono HB.out.size))
  clear hb hr
  go_wp2_with fail
  go_ret
  exact ⟨rfl, HB.out⟩
set_option maxHeartbeats 4000000 in
set_option maxRecDepth 100000 in
theorem bufnames_any (w : World) : Calls Try.prog 4 #[] w fun e w' => e = .returned (.bool true) ∧ Below w.heap.size w w' := by
  have C0 := Lib.hid (new_lm (Below.refl w.heap.size w))
  have HW := Lib.hid (Nat.le_refl w.heap.size)
  obtain ⟨b, hb⟩ : ∃ b, w.heap.size = b := ⟨_, rfl⟩
  rw [hb] at C0
  go_enter Try.func4, Try.ntmps4
  go_wp2_with fail
  refine C0.out.mono ?_
  rintro e w1 ⟨rfl, h1⟩
  have HS := Lib.hid h1
  clear h1
  go_wp2_with fail
  refine (HS.out.turn (fun F h => trim_go 5 (P' := []) (f := 5) rfl rfl rfl h)).mono ?_
  rintro e w1 ⟨rfl, h1⟩
  replace HS := Lib.hid h1
  clear h1
  go_wp2_with fail
  refine (HS.out.turn (fun F h => trim_go 4 (P' := []) (f := 5) rfl rfl rfl h)).mono ?_
  rintro e w1 ⟨rfl, h1⟩
  replace HS := Lib.hid h1
  clear h1
  go_wp2_with fail
  refine (HS.out.read (fun F h => ends_go (x := 0) (y := 0) rfl h)).mono ?_
  rintro e w1 ⟨rfl, h1⟩
  replace HS := Lib.hid (HS.out.go (BufO.obj _ _ _) h1)
  clear h1
  go_wp2_with fail
  refine (lives_any _).mono ?_
  rintro e w1 ⟨rfl, h1⟩
  replace HS := Lib.hid (HS.out.go (BufO.obj _ _ _) h1)
  clear h1
  go_wp2_with fail
  refine (HS.out.turn (fun F h => put_go 0 1 (P' := []) (x := 2) rfl rfl h)).mono ?_
  rintro e w1 ⟨rfl, h1⟩
  replace HS := Lib.hid h1
  clear h1
  go_wp2_with fail
  refine (HS.out.read (fun F h => floor_go h)).mono ?_
  rintro e w1 ⟨rfl, h1⟩
  have HE := Lib.hid (HS.out.below.trans (h1.mono HS.out.size))
  clear h1
  go_wp2_with fail
  go_ret
  subst hb
  exact ⟨rfl, HE.out⟩
end Go.Proofs.Ytfblmmnofhkkaaa
