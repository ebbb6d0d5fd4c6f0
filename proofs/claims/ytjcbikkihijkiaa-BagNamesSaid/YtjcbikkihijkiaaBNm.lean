/- BagNames, walked. -/
import Derived.Test.YtjcbikkihijkiaaBgW
import Derived.Test.YtjcbikkihijkiaaRdc
import Derived.Test.YtjcbikkihijkiaaClo
import Derived.Test.YtjcbikkihijkiaaStr
namespace Go.Proofs.Ytjcbikkihijkiaa
open Go.RowKit
theorem nm1 : rsCount 2147483647 ([0, 1, 1], 0) = (0, ([1, 1], 0)) := by decide
theorem nm2 : rsCount 3 ([1, 1], 0) = (1, ([], 0)) := by decide
theorem nm3 : rsSigned ([], 0) = (0, ([], 5)) := by decide
theorem nm4 : rsCount 2147483647 ([], 5) = (0, ([], 5)) := by decide
set_option maxHeartbeats 4000000 in
set_option maxRecDepth 100000 in
theorem bread_bad (A : Option Addr) (c : Nat) (w : World) (hA : Rd w A [0, 1, 1]) : Calls Try.prog 24 #[.slice A 3 c] w fun e w' => e = .returned (.tuple #[.pointer none, .int .i64 4]) ∧ Below w.heap.size w w' := by
  have C0 := Lib.hid (new_any A c [0, 1, 1] w hA (by simp))
  have K1 := Lib.hid (fun (F : Nat → Prop) r W (h : RdrW W F r ([0, 1, 1], 0)) => by have := rdr_count r _ 2147483647 (by omega) W h; rw [show rsCount ((2147483647 : Nat) : Int) ([0, 1, 1], 0) = (0, ([1, 1], 0)) from nm1] at this; exact this)
  have K2 := Lib.hid (fun (F : Nat → Prop) r W (h : RdrW W F r ([1, 1], 0)) => by have := rdr_count r _ 3 (by omega) W h; rw [show rsCount ((3 : Nat) : Int) ([1, 1], 0) = (1, ([], 0)) from nm2] at this; exact this)
  have K3 := Lib.hid (fun (F : Nat → Prop) r W (h : RdrW W F r ([], 0)) => by have := rdr_signed r _ W h; rw [nm3] at this; exact this)
  have K4 := Lib.hid (fun (F : Nat → Prop) r W (h : RdrW W F r ([], 5)) => by have := rdr_count r _ 2147483647 (by omega) W h; rw [show rsCount ((2147483647 : Nat) : Int) ([], 5) = (0, ([], 5)) from nm4] at this; exact this)
  have K5 := Lib.hid (fun (F : Nat → Prop) r W (h : RdrW W F r ([], 5)) => rdr_err_ r _ W h)
  unfold RdP1 ptrTo at K1 K2 K3 K4
  unfold ptrTo at K5
  clear hA
  go_enter Try.func24, Try.ntmps24
  go_wp2_with fail
  refine C0.out.mono ?_
  rintro e w1 ⟨r, rfl, hr, hb⟩
  unfold ptrTo
  have HRl : Hid (r < w1.heap.size) := Lib.hid hr.lt
  have HR := Lib.hid hr.old
  have HB := Lib.hid hb
  clear hr hb
  go_wp2_with fail
  refine (bnew_any _).mono ?_
  rintro e w2 ⟨rfl, ⟨pT, Ft, _, h2, _⟩, hb, hs⟩
  have HX := Lib.hid h2
  obtain ⟨b, hbe⟩ : ∃ b, w1.heap.size = b := ⟨_, rfl⟩
  rw [hbe] at HX HRl HR
  have HR2 := Lib.hid (HR.out.below hb)
  have HB2 := Lib.hid (HB.out.trans (hb.mono HB.out.size))
  have HWb : Hid (w.heap.size ≤ b) := Lib.hid (by rw [← hbe]; exact HB.out.size)
  have hrb : ¬ b = r := by have := HRl.out; omega
  have HW0 : Hid (w.heap.size ≤ r) := Lib.hid (by obtain ⟨_, _, _, _, _, _, _, hF, _⟩ := HR.out; exact hF.1)
  clear h2 hb hs HR HB
  go_wp2_with fail
  clear hbe
  refine (K1.out _ _ _ HR2.out).mono ?_
  rintro e w3 ⟨rfl, hr, ho⟩
  have HR3 := Lib.hid hr
  have HX3 := Lib.hid (ho.get HX.out hrb)
  have HB3 := Lib.hid (HB2.out.trans (ho.below (fun k e => by have := HW0.out; omega) HB2.out.size))
  have f2 := freeAt 2 HX3.out
  have x2 := cellAt (o := 2) HX3.out rfl
  have HSo := Lib.hid (Only.set w3 b 2 (.int .i64 0))
  have HX4 := Lib.hid (setCell_get (o := 2) (u := .int .i64 0) HX3.out)
  have HR4 := Lib.hid (HR3.out.keep HSo.out (fun k hk _ e => by have := hk.2; omega))
  have HB4 := Lib.hid (HB3.out.trans (HSo.out.below (fun k e => by have := HWb.out; omega) HB3.out.size))
  have y2 := cellAt (o := 2) HX4.out rfl
  clear hr ho
  go_wp2_with fail
  clear f2 x2
  obtain ⟨w4, hw4⟩ : ∃ W, w3.setCell ⟨b, 2, none⟩ (.int .i64 0) = W := ⟨_, rfl⟩
  rw [hw4] at HSo HX4 HR4 HB4 y2 ⊢
  clear hw4
  refine (K2.out _ _ _ HR4.out).mono ?_
  rintro e w5 ⟨rfl, hr, ho⟩
  have HR5 := Lib.hid hr
  have HB5 := Lib.hid (HB4.out.trans (ho.below (fun k e => by have := HW0.out; omega) HB4.out.size))
  clear hr ho y2
  go_wp2_with fail
  refine wp_loop_rounds 1 ?_
  unfold Code.rounds
  go_wp2_with fail
  refine (K3.out _ _ _ HR5.out).mono ?_
  rintro e w6 ⟨rfl, hr, ho⟩
  have HR6 := Lib.hid hr
  have HB6 := Lib.hid (HB5.out.trans (ho.below (fun k e => by have := HW0.out; omega) HB5.out.size))
  clear hr ho
  go_wp2_with fail
  refine (K4.out _ _ _ HR6.out).mono ?_
  rintro e w7 ⟨rfl, hr, ho⟩
  have HR7 := Lib.hid hr
  have HB7 := Lib.hid (HB6.out.trans (ho.below (fun k e => by have := HW0.out; omega) HB6.out.size))
  clear hr ho
  go_wp2_with fail
  refine (K5.out _ _ _ HR7.out).mono ?_
  rintro e w8 ⟨rfl, rfl⟩
  go_wp2_with fail
  go_ret2
  exact ⟨rfl, HB7.out⟩
theorem nm5 : bagB 0 [] = [0, 0] := by
  have h0 : numB 0 = [0] := by unfold numB; rw [leB_zero]; rfl
  show numB 0 ++ (numB 0 ++ []) = _
  rw [h0]; rfl
set_option maxHeartbeats 4000000 in
set_option maxRecDepth 100000 in
theorem bnames_any (w : World) : Calls Try.prog 6 #[] w fun e w' => e = .returned (.bool true) ∧ Below w.heap.size w w' := by
  have C0 := Lib.hid (newLBag (Below.refl w.heap.size w))
  go_enter Try.func6, Try.ntmps6
  go_wp2_with fail
  refine C0.out.mono ?_
  rintro e w1 ⟨rfl, h1⟩
  have HS := Lib.hid h1
  clear h1
  go_wp2_with fail
  refine (HS.out.read (fun F h => bmost_L h (by simp [sumL]))).mono ?_
  rw [show endLs [] 0 (hiL []) = (false, 0, false) from rfl]
  unfold endP
  rintro e w2 ⟨rfl, hb⟩
  replace HS := Lib.hid (HS.out.go (hb.trans ((below_alloc (Below.refl w2.heap.size w2) (Obj.cells #[.int .i64 (0), .bool false] 29)).mono hb.size)))
  clear hb
  go_wp2_with fail
  have CR : Hid (Calls Try.prog 24 #[.slice (some ⟨w2.heap.size + 1, 0, none⟩) 3 3] ((w2.alloc (Obj.cells #[.int .i64 (0), .bool false] 29)).alloc (.cells #[.int .u8 0, .int .u8 1, .int .u8 1] 5)) _) := Lib.hid (bread_bad _ 3 _ (by have := Rd.new (w2.alloc (Obj.cells #[.int .i64 (0), .bool false] 29)) [0, 1, 1]; rw [alloc_size] at this; exact this))
  replace HS := Lib.hid (HS.out.go (below_alloc (Below.refl _ _) (.cells #[.int .u8 0, .int .u8 1, .int .u8 1] 5)))
  refine CR.out.mono ?_
  rintro e w3 ⟨rfl, hb⟩
  replace HS := Lib.hid (HS.out.go hb)
  clear hb CR
  go_wp2_with fail
  refine (lives_any _).mono ?_
  rintro e w4 ⟨rfl, hb⟩
  replace HS := Lib.hid (HS.out.go hb)
  clear hb
  go_wp2_with fail
  refine (HS.out.turn (L' := []) (o' := 0) (R := fun e => e = .returned (.int .i64 6)) (fun F h => btake_L 7 false h (by omega) (by simp [sumL]))).mono ?_
  rintro e w5 ⟨rfl, h5, _⟩
  replace HS := Lib.hid h5
  clear h5
  go_wp2_with fail
  refine (HS.out.read (fun F h => bbytes_any h (by simp [sumL]))).mono ?_
  rw [nm5]
  rintro e w6 ⟨A6, c6, rfl, hr6, hb⟩
  replace HS := Lib.hid (HS.out.go hb)
  have hcv := conv_rd (c := c6) hr6
  simp only [List.length_cons, List.length_nil, Nat.zero_add, Nat.reduceAdd] at hcv ⊢
  clear hb hr6
  go_wp2_with fail
  refine (HS.out.turn (L' := []) (o' := 0) (R := fun e => e = .returned (.int .i64 2)) (fun F h => bput_L 1 true (by unfold I64; omega) h (by omega) (by simp [sumL]))).mono ?_
  rintro e w7 ⟨rfl, h7, _⟩
  have HB := Lib.hid h7.below
  clear h7
  go_wp2_with fail
  go_ret
  exact ⟨rfl, HB.out⟩
end Go.Proofs.Ytjcbikkihijkiaa
