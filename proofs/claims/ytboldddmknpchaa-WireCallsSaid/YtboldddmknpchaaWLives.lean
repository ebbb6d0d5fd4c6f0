/- lives of the wire package's laws; WireNil. -/
import Derived.Test.YtboldddmknpchaaWNil
import Derived.Test.YtboldddmknpchaaCrc
import Derived.Test.YtboldddmknpchaaStr
import Derived.Lib.SlBytesConst
namespace Go.Proofs.Ytboldddmknpchaa
open Go.RowKit
def nine : List UInt8 := [49, 50, 51, 52, 53, 54, 55, 56, 57]
theorem nine_rd (w : World) : Rd (w.alloc (.cells #[.int .u8 49, .int .u8 50, .int .u8 51, .int .u8 52, .int .u8 53, .int .u8 54, .int .u8 55, .int .u8 56, .int .u8 57] 5 (9, 9 + 1))) (some ⟨w.heap.size, 0, none⟩) nine := by
  refine ⟨rfl, fun _ => ⟨_, rfl, by simp, fun j u hu => ?_⟩⟩
  exact World.news_of_block (w := w.alloc (.cells #[.int .u8 49, .int .u8 50, .int .u8 51, .int .u8 52, .int .u8 53, .int .u8 54, .int .u8 55, .int .u8 56, .int .u8 57] 5 (9, 9 + 1))) (heap_alloc_new w _) j u hu
theorem num256 : ([] : List UInt8) ++ numB 256 = [2, 0, 1] := by
  simp [numB, leB_pos, leB_zero]
theorem signed1 : ([] : List UInt8) ++ numB (zz (-1)) = [1, 1] := by
  simp [numB, zz, leB_pos, leB_zero]
set_option maxRecDepth 100000 in
theorem wlives_any (w : World) : Calls Try.prog 5 #[] w fun e w' => e = .returned (.bool true) ∧ Below w.heap.size w w' := by
  have C1 : Hid (∀ W, Calls Try.prog 13 #[.slice none 0 0, .int .u64 256] W (FreshB W ([] ++ numB 256))) := Lib.hid (fun W => number_any none 0 [] 256 (by unfold N64; omega) W Rd.nil_ (by decide))
  have C2 : Hid (∀ W, Calls Try.prog 15 #[.slice none 0 0, .int .i64 (-1)] W (FreshB W ([] ++ numB (zz (-1))))) := Lib.hid (fun W => signed_any none 0 [] (-1) (by unfold In64; omega) W Rd.nil_ (by decide))
  have kc := fun (w : World) (C : Array Value) (n c : Nat) => Lib.run_convert_bytes_const (P := Try.prog) w 22 5 C n c Try.underlying22 Try.underlying5
  go_enter Try.func5, Try.ntmps5
  go_wp2_with fail
  refine (C1.out _).mono ?_; intro e w1 hf
  obtain ⟨A1, c1, m, rfl, HM, _, HR, _, HB⟩ := hf.named
  have hc := conv_rd (c := c1) HR.out
  have heq : (m == [2, 0, 1]) = true := by rw [HM.out, num256]; decide
  clear hf
  go_wp2_with fail
  clear hc heq
  refine (C2.out _).mono ?_; intro e w2 hf
  obtain ⟨A2, c2, m2, rfl, HM2, _, HR2, _, HB2⟩ := hf.named
  have hc := conv_rd (c := c2) HR2.out
  have heq : (m2 == [1, 1]) = true := by rw [HM2.out, signed1]; decide
  replace HB := Lib.hid (HB.out.trans (HB2.out.mono HB.out.size))
  clear hf HB2
  have HQ : Hid (RdP ((w2.alloc (.cells #[.int .u8 49, .int .u8 50, .int .u8 51, .int .u8 52, .int .u8 53, .int .u8 54, .int .u8 55, .int .u8 56, .int .u8 57] 5 (9, 9 + 1))).alloc (.cells #[.slice (some ⟨w2.heap.size, 0, none⟩) 9 9] 22)) (some ⟨w2.heap.size + 1, 0, none⟩) [(some ⟨w2.heap.size, 0, none⟩, 9, nine)]) :=
    Lib.hid (RdP.new (W := w2.alloc (.cells #[.int .u8 49, .int .u8 50, .int .u8 51, .int .u8 52, .int .u8 53, .int .u8 54, .int .u8 55, .int .u8 56, .int .u8 57] 5 (9, 9 + 1))) (by rw [alloc_size]) [(some ⟨w2.heap.size, 0, none⟩, 9, nine)] (fun p hp => by
      simp only [List.mem_cons, List.not_mem_nil, or_false] at hp
      subst hp
      exact nine_rd w2))
  have ec : crc (allB [(some ⟨w2.heap.size, 0, none⟩, 9, nine)]) = 3808858755 := by
    rw [show allB [(some ⟨w2.heap.size, 0, none⟩, 9, nine)] = nine by simp [allB]]; exact crc_check
  have CS := sum_any (some ⟨w2.heap.size + 1, 0, none⟩) 1 [(some ⟨w2.heap.size, 0, none⟩, 9, nine)] _ HQ.out (by simp) (by simp [nine])
  rw [ec] at CS
  replace HB := Lib.hid (below_alloc (below_alloc HB.out (.cells #[.int .u8 49, .int .u8 50, .int .u8 51, .int .u8 52, .int .u8 53, .int .u8 54, .int .u8 55, .int .u8 56, .int .u8 57] 5 (9, 9 + 1))) (.cells #[.slice (some ⟨w2.heap.size, 0, none⟩) 9 9] 22))
  clear ec HQ
  replace CS := Lib.hid CS
  go_wp2_with fail
  refine CS.out.mono ?_; rintro e w3 ⟨rfl, hb⟩
  have HF := Lib.hid (HB.out.trans (hb.mono HB.out.size))
  clear hb CS
  go_wp2_with fail
  go_ret
  exact ⟨rfl, HF.out⟩
set_option maxRecDepth 100000 in
theorem wnil_any (n : Int) (w : World) : Calls Try.prog 4 #[.int .i64 n] w fun e w' => e = .returned (.bool true) ∧ Below w.heap.size w w' := by
  have HB := Lib.hid (Below.refl w.heap.size w)
  go_enter Try.func4, Try.ntmps4
  go_wp2_with fail; refine (wlives_any _).mono ?_; rintro e w1 ⟨rfl, hb⟩; replace HB := Lib.hid (HB.out.trans (hb.mono HB.out.size)); clear hb
  go_wp2_with fail; refine (err_nil _).mono ?_; rintro e w1 ⟨rfl, hb⟩; replace HB := Lib.hid (HB.out.trans (hb.mono HB.out.size)); clear hb
  go_wp2_with fail; refine (end_nil _).mono ?_; rintro e w1 ⟨rfl, hb⟩; replace HB := Lib.hid (HB.out.trans (hb.mono HB.out.size)); clear hb
  go_wp2_with fail; refine (left_nil _).mono ?_; rintro e w1 ⟨rfl, hb⟩; replace HB := Lib.hid (HB.out.trans (hb.mono HB.out.size)); clear hb
  go_wp2_with fail; refine (numr_nil _).mono ?_; rintro e w1 ⟨rfl, hb⟩; replace HB := Lib.hid (HB.out.trans (hb.mono HB.out.size)); clear hb
  go_wp2_with fail; refine (signedr_nil _).mono ?_; rintro e w1 ⟨rfl, hb⟩; replace HB := Lib.hid (HB.out.trans (hb.mono HB.out.size)); clear hb
  go_wp2_with fail; refine (textr_nil _).mono ?_; rintro e w1 ⟨rfl, hb⟩; replace HB := Lib.hid (HB.out.trans (hb.mono HB.out.size)); clear hb
  go_wp2_with fail; refine (truthr_nil _).mono ?_; rintro e w1 ⟨rfl, hb⟩; replace HB := Lib.hid (HB.out.trans (hb.mono HB.out.size)); clear hb
  go_wp2_with fail; refine (countr_nil n _).mono ?_; rintro e w1 ⟨rfl, hb⟩; replace HB := Lib.hid (HB.out.trans (hb.mono HB.out.size)); clear hb
  go_wp2_with fail
  go_ret
  exact ⟨rfl, HB.out⟩
end Go.Proofs.Ytboldddmknpchaa
