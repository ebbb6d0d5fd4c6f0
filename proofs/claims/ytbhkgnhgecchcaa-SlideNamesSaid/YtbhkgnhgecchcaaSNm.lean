/- SlideNames, walked. -/
import Derived.Test.YtbhkgnhgecchcaaRdW
import Derived.Test.YtbhkgnhgecchcaaSlS
namespace Go.Proofs.Ytbhkgnhgecchcaa
open Go.RowKit
theorem nm1 : stPush 9 ⟨0, [], 0⟩ 9 5 = (0, ⟨9, [(9, 5)], 1⟩) := by rfl
theorem nm2 : stPush 9 ⟨9, [(9, 5)], 1⟩ 9 5 = (8, ⟨9, [(9, 5)], 1⟩) := by rfl
theorem nm3 : stGo 9 ⟨9, [(9, 5)], 1⟩ 8 = (8, ⟨9, [(9, 5)], 1⟩) := by rfl
theorem nmF : Fine ⟨9, [(9, 5)], 1⟩ 1 := by have := Fine.zero.push (span := 9) (by omega) 9 5 (by unfold In64; omega); rwa [nm1] at this
theorem nmR : rdSl 2 [1, 6] = none := by
  have e1 : rsNum ([1, 6], 0) = (6, ([], 0)) := by rfl
  have e2 : (rsNum ([], 0)).1 = 0 := rfl
  have h : ¬ okNew (rsNum (([1, 6] : List UInt8), 0)).1 (rsNum (rsNum (([1, 6] : List UInt8), 0)).2).1 := by
    rw [e1]
    intro h
    have h2 := h.2.1
    simp only [e2] at h2
    omega
  unfold rdSl
  rw [if_pos (.inl h)]
set_option maxHeartbeats 4000000 in
set_option maxRecDepth 100000 in
theorem snames_any (w : World) : Calls Try.prog 6 #[] w fun e w' => e = .returned (.bool true) ∧ Below w.heap.size w w' := by
  have HS : 1 ≤ (9 : Int) ∧ (9 : Int) ≤ 1073741824 := by omega
  have N1 := Lib.hid (fun W => (snew_any 7 1 W).mono fun e w' (h : NewP 7 1 W e w') => show e = .returned (.tuple #[.pointer none, .int .i64 2]) ∧ Below W.heap.size W w' from h.elim (fun h => absurd h.1 (by unfold okNew; omega)) (fun h => h.2))
  have N2 := Lib.hid (fun W => (snew_any 1 0 W).mono fun e w' (h : NewP 1 0 W e w') => show e = .returned (.tuple #[.pointer none, .int .i64 2]) ∧ Below W.heap.size W w' from h.elim (fun h => absurd h.1 (by unfold okNew; omega)) (fun h => h.2))
  have N3 := Lib.hid (fun W => new_b (fn := 6) (span := 9) (by unfold okNew; omega) W)
  have Q1 := Lib.hid (fun W B F s (h : SlB W B s 6 9 ⟨0, [], 0⟩ F) => push_b h Fine.zero (by omega) 9 5 (by unfold In64; omega) HS _ nm1)
  have Q2 := Lib.hid (fun W B F s (h : SlB W B s 6 9 ⟨9, [(9, 5)], 1⟩ F) => push_b h nmF (by omega) 9 5 (by unfold In64; omega) HS _ nm2)
  have Q3 := Lib.hid (fun W B F s (h : SlB W B s 6 9 ⟨9, [(9, 5)], 1⟩ F) => go_b h nmF (by omega) 8 HS _ nm3)
  clear HS
  go_enter Try.func6, Try.ntmps6
  go_wp2_with fail
  refine (N1.out _).mono ?_
  rintro e w1 ⟨rfl, hb⟩
  have HB := Lib.hid hb
  clear hb
  go_wp2_with fail
  refine (N2.out _).mono ?_
  rintro e w2 ⟨rfl, hb⟩
  replace HB := Lib.hid (HB.out.trans (hb.mono HB.out.size))
  clear hb
  go_wp2_with fail
  refine (N3.out _).mono ?_
  rintro e w3 ⟨s, F, rfl, hs, hb⟩
  have HT := Lib.hid hs
  have HZ := Lib.hid HB.out.size
  replace HB := Lib.hid (HB.out.trans (hb.mono HB.out.size))
  clear hs hb
  go_wp2_with fail
  refine (Q1.out _ _ _ _ HT.out).mono ?_
  rintro e w4 ⟨rfl, ⟨F4, hs, _⟩, ho⟩
  replace HB := Lib.hid (HB.out.trans ((HT.out.bel ho).mono HZ.out))
  replace HT := Lib.hid hs
  clear hs ho
  have HBx := below_alloc (Below.refl w4.heap.size w4) (.cells #[.int .u8 1, .int .u8 6] 5)
  have CR := Lib.hid (sread_any (some ⟨w4.heap.size, 0, none⟩) 2 [1, 6] (w4.alloc (.cells #[.int .u8 1, .int .u8 6] 5)) (Rd.new w4 [1, 6]) (by simp))
  rw [show ([1, 6] : List UInt8).length = 2 from rfl, nmR] at CR
  replace HT := Lib.hid (HT.out.below HBx)
  replace HB := Lib.hid (HB.out.trans (HBx.mono HB.out.size))
  clear HBx
  go_wp2_with fail
  refine CR.out.mono ?_
  rintro e w5 ⟨hb, ⟨_, rfl⟩ | ⟨_, _, _, _, _, _, h, _⟩⟩
  case inr => cases h
  replace HT := Lib.hid (HT.out.below hb)
  replace HB := Lib.hid (HB.out.trans (hb.mono HB.out.size))
  clear hb CR
  go_wp2_with fail
  refine (lives_any _).mono ?_
  rintro e w6 ⟨rfl, hb⟩
  replace HT := Lib.hid (HT.out.below hb)
  replace HB := Lib.hid (HB.out.trans (hb.mono HB.out.size))
  clear hb
  go_wp2_with fail
  refine (Q2.out _ _ _ _ HT.out).mono ?_
  rintro e w7 ⟨rfl, ⟨F7, hs, _⟩, ho⟩
  replace HB := Lib.hid (HB.out.trans ((HT.out.bel ho).mono HZ.out))
  replace HT := Lib.hid hs
  clear hs ho
  go_wp2_with fail
  refine (Q3.out _ _ _ _ HT.out).mono ?_
  rintro e w8 ⟨rfl, ⟨F8, hs, _⟩, ho⟩
  replace HB := Lib.hid (HB.out.trans ((HT.out.bel ho).mono HZ.out))
  clear hs ho
  go_wp2_with fail
  go_ret
  exact ⟨rfl, HB.out⟩
end Go.Proofs.Ytbhkgnhgecchcaa
