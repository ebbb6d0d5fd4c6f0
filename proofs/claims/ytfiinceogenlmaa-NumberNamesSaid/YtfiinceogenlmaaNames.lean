/- NumberNames: the law returns true. -/
import Derived.Test.YtfiinceogenlmaaNumB
import Derived.Test.YtfiinceogenlmaaStr
import Derived.Test.YtfiinceogenlmaaIs0
import Derived.Test.YtfiinceogenlmaaLives
import Derived.Test.YtfiinceogenlmaaLaw
namespace Go.Proofs.Ytfiinceogenlmaa
open Go.ChangeShapes Go.WideShapes Go.ChangeAt Go.RowKit Go.Joins
theorem names_bytes : ([] : List UInt8) ++ valB (-1) false = [0, 1, 1] := by
  simp [valB, numB, zz, leB_pos, leB_zero]
set_option maxRecDepth 100000 in
theorem names_any (w : World) : Calls Try.prog 8 #[] w fun e w' => e = .returned (.bool true) ∧ Below w.heap.size w w' := by
  have C1 := Lib.hid (fun W => is_over 9 3 (by decide) (by decide) W)
  have C2 := Lib.hid (fun W => of_any 1 W)
  have C3 := Lib.hid (fun W => do_bad 4 1 1 false false (by decide) W)
  have C4 := Lib.hid (fun W => lives_any W)
  have C5 := Lib.hid (fun W => check_bad 1 (by decide) W)
  have C6 := Lib.hid (fun W => of_any (-1) W)
  have C7 := Lib.hid (fun W => bytes_any none 0 [] (-1) false (by unfold In64; omega) W Rd.nil_ (by decide))
  have HB := Lib.hid (Below.refl w.heap.size w)
  go_enter Try.func8, Try.ntmps8
  go_wp2_with fail
  refine (C1.out _).mono ?_; rintro e w1 ⟨rfl, hb⟩; replace HB := Lib.hid (HB.out.trans (hb.mono HB.out.size)); clear hb
  go_wp2_with fail
  refine (C2.out _).mono ?_; rintro e w2 ⟨rfl, hb⟩; replace HB := Lib.hid (HB.out.trans (hb.mono HB.out.size)); clear hb
  go_wp2_with fail
  refine (C2.out _).mono ?_; rintro e w3 ⟨rfl, hb⟩; replace HB := Lib.hid (HB.out.trans (hb.mono HB.out.size)); clear hb
  go_wp2_with fail
  refine (C3.out _).mono ?_; rintro e w4 ⟨rfl, hb⟩; replace HB := Lib.hid (HB.out.trans (hb.mono HB.out.size)); clear hb
  go_wp2_with fail
  replace HB := Lib.hid (below_alloc HB.out (.cells #[.int .i64 0, .bool false] 25))
  refine (C4.out _).mono ?_; rintro e w5 ⟨rfl, hb⟩; replace HB := Lib.hid (HB.out.trans (hb.mono HB.out.size)); clear hb
  go_wp2_with fail
  refine (C5.out _).mono ?_; rintro e w6 ⟨rfl, hb⟩; replace HB := Lib.hid (HB.out.trans (hb.mono HB.out.size)); clear hb
  go_wp2_with fail
  refine (C6.out _).mono ?_; rintro e w7 ⟨rfl, hb⟩; replace HB := Lib.hid (HB.out.trans (hb.mono HB.out.size)); clear hb
  go_wp2_with fail
  refine (C7.out _).mono ?_; intro e w8 hf
  obtain ⟨A1, c1, m, rfl, HM, _, HR, HO, H5⟩ := hf.named
  have hc := conv_rd (c := c1) HR.out
  have hm : m = [0, 1, 1] := HM.out.trans names_bytes
  have heq : (m == [0, 1, 1]) = true := by rw [hm]; decide
  have HM2 := Lib.hid hm
  clear hm
  have hb := H5.out
  replace HB := Lib.hid (HB.out.trans (hb.mono HB.out.size))
  clear hf hb H5 HO
  go_wp2_with fail
  go_ret
  exact ⟨rfl, HB.out⟩
set_option maxRecDepth 100000 in
theorem numberNames_lifted (os : Os) (started : os.Started) (H : Type) (enc : TypeId × Value → H) :
    ReturnsInHanded {} Try.checked os 8 .any (Rows.numberNamesSpec.pre6 enc Try.prog Try.f8 Rows.numberNamesRow.domain false) (Rows.numberNamesSpec.post enc Try.prog Try.f8 false true false false) := by
  refine returnsInHanded_of_change (C := Try.checked) ownL started (by kernel_rfl) Try.func8
    (ChangeSpec.witness6 (enc := enc) (C := Try.checked) false ⟨#[], #[], []⟩ 8 (by kernel_rfl) (by kernel_rfl) (by kernel_rfl) (by kernel_rfl)) ?_
  intro W base args ds gs before hval0 hW hcnd _
  have hval : ∀ (j : Nat) t v, Try.f8.params[j]? = some t → args[j]? = some v → Value.okWide Try.prog W .any base t v := hval0
  have hW' := hW
  obtain ⟨p, q, hA0, hV, rfl, hfz, hnd⟩ := hW
  have hA : DataW.TrodAll enc Try.prog W 0 (fun _ => true) true Try.f8.params.toList args.toList ds p := hA0
  rw [Try.params8] at hA hval
  obtain ⟨hargs, rfl, rfl⟩ := trodAll_nil hA
  obtain rfl : args = #[] := by cases args; simpa using hargs
  obtain ⟨rfl, rfl⟩ := trodVars_none hV
  clear hA0 hval0
  refine (names_any W).mono fun e W' ⟨he, hb⟩ => ?_
  subst he
  exact ⟨_, rfl, law_post laidOut (by kernel_rfl) rfl rfl rfl hW' (fun _ _ _ => trodAll_mk1 (shut_bool Try.underlying4 _)) hb (ok_one (by kernel_rfl) rfl (okWide_bool_mk Try.underlying4 _))⟩
theorem numberNames_holds : Rows.NumberNamesSaid :=
  OpenClaim.holds_of_wide 8 Try.f8 rfl rfl rfl rfl rfl rfl rfl ⟨rfl, rfl, rfl, rfl, rfl⟩ rfl rfl rfl rfl rfl (by kernel_rfl) Try.func8 (by kernel_rfl)
    (of_decide_eq_true (by kernel_rfl)) (by unfold Func.isWrapper; first | (rw [if_pos (by decide +kernel)]; kernel_rfl) | (rw [if_neg (by decide +kernel)]; exact ⟨rfl, rfl⟩))
    (fun os started H enc _ => numberNames_lifted os started H enc)
#print axioms numberNames_holds
end Go.Proofs.Ytfiinceogenlmaa
