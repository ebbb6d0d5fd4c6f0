/- The reference's reader: Count; the reference's small. -/
import Derived.Test.YtbhkgnhgecchcaaRrm
import Derived.Test.YtbhkgnhgecchcaaRdc
namespace Go.Proofs.Ytbhkgnhgecchcaa
open Go.RowKit
set_option maxHeartbeats 4000000 in
set_option maxRecDepth 100000 in
theorem rr_count {F : Nat → Prop} (r : Nat) (s : Rst) (m : Nat) (hm : m ≤ 2147483647) (w : World) (h : RefW w F r s) : Calls Try.prog 53 #[ptrTo r, .int .i64 m] w (RrP F r (rsCount m s).2 (.int .i64 ((rsCount m s).1 : Nat)) w) := by
  have HK := Lib.hid h
  obtain ⟨A, c, B, I, h1, h2, h3, h4, h5, h6, h7⟩ := h
  obtain ⟨l, er⟩ := s
  simp only at h1 h3
  have k2 := cellAt (o := 2) h1 rfl
  have hmx : max (0 : Int) (m : Int) = (m : Int) := by omega
  have hwm : IntKind.u64.wrap (m : Int) = (m : Int) := by rw [IntKind.wrap_u64]; omega
  by_cases he : er = 0
  · subst he
    have CN := Lib.hid (rnext_any A c B I r 0 w h1 h2 h4 h5)
    have HL := Lib.hid (rdNum_len (B.drop I))
    have hd : (B.drop I).length = B.length - I := List.length_drop
    rw [← h3] at CN HL hd
    by_cases hy : (rdNum l).2.2 = 0
    · have hx64 := rdNum_64 l
      by_cases hv : (m : Int) < ((rdNum l).1 : Int)
      · have HS : Hid (rsCount m (l, 0) = (0, (l, 3))) := Lib.hid (by unfold rsCount rsOf rdCount; rw [hmx]; simp [hy, hv])
        rw [HS.out]
        have HV : Hid (nextV l I = .tuple #[.int .u64 ((rdNum l).1 : Nat), .int .i64 ((I + (rdNum l).2.1 : Nat) : Int), .int .i64 0]) := Lib.hid (by unfold nextV; rw [hy]; rfl)
        rw [HV.out] at CN
        generalize (rdNum l).1 = x at *
        generalize (rdNum l).2.1 = n at *
        have HX : Hid (∀ w', Below w.heap.size w w' → RefW (w'.setCell ⟨r, 2, none⟩ (.int .i64 3)) F r (l, 3)) := Lib.hid (fun w' hb => by
          have g1 := (Only.of_below hb (S := fun _ => False)).get h1 (fun h => h)
          have := ref_err (y := 3) g1 h2 h4 (h5.below hb) h6 (fun ad e => ⟨(h7 ad e).1, (h7 ad e).2.1, Nat.lt_of_lt_of_le (h7 ad e).2.2 hb.size⟩)
          rwa [← h3] at this)
        obtain ⟨v, hv'⟩ : ∃ v : Int, ((I + n : Nat) : Int) = v := ⟨_, rfl⟩
        rw [hv'] at CN
        have H1 := Lib.hid h1
        clear hy h1 h3 h4 h5 h6 h7 hv' HK hx64
        unfold ptrTo at *
        go_enter Try.func53, Try.ntmps53
        go_wp2_with fail
        refine CN.out.mono ?_
        rintro e w1 ⟨rfl, hb⟩
        have g1 := (Only.of_below hb (S := fun _ => False)).get H1.out (fun h => h)
        have m1 := cellAt (o := 2) g1 rfl
        have m2 := freeAt 2 g1
        have HB := Lib.hid hb
        clear hb g1 k2
        go_wp2_with fail
        all_goals
          go_ret
          exact ⟨rfl, HX.out _ HB.out, (Only.of_below HB.out).then (Only.set _ _ _ _) (fun _ _ h => h)⟩
      · have HS : Hid (rsCount m (l, 0) = ((rdNum l).1, (l.drop (rdNum l).2.1, 0))) := Lib.hid (by unfold rsCount rsOf rdCount; rw [hmx]; simp [hy, hv])
        rw [HS.out]
        have HV : Hid (nextV l I = .tuple #[.int .u64 ((rdNum l).1 : Nat), .int .i64 ((I + (rdNum l).2.1 : Nat) : Int), .int .i64 0]) := Lib.hid (by unfold nextV; rw [hy]; rfl)
        rw [HV.out] at CN
        generalize (rdNum l).1 = x at *
        generalize (rdNum l).2.1 = n at *
        have HX : Hid (∀ w', Below w.heap.size w w' → RefW (w'.setCell ⟨r, 1, none⟩ (.int .i64 ((I + n : Nat) : Int))) F r (l.drop n, 0)) := Lib.hid (fun w' hb => by
          have g1 := (Only.of_below hb (S := fun _ => False)).get h1 (fun h => h)
          have := ref_adv (n := n) g1 (by have := HL.out; omega) h4 (h5.below hb) h6 (fun ad e => ⟨(h7 ad e).1, (h7 ad e).2.1, Nat.lt_of_lt_of_le (h7 ad e).2.2 hb.size⟩)
          rwa [← h3] at this)
        obtain ⟨v, hv'⟩ : ∃ v : Int, ((I + n : Nat) : Int) = v := ⟨_, rfl⟩
        rw [hv'] at CN HX
        have H1 := Lib.hid h1
        have hwx : wrap64 (x : Int) = (x : Int) := by unfold wrap64; omega
        clear hy h1 h3 h4 h5 h6 h7 hv' HK hx64
        unfold ptrTo at *
        go_enter Try.func53, Try.ntmps53
        go_wp2_with fail
        refine CN.out.mono ?_
        rintro e w1 ⟨rfl, hb⟩
        have g1 := (Only.of_below hb (S := fun _ => False)).get H1.out (fun h => h)
        have m1 := cellAt (o := 1) g1 rfl
        have m2 := freeAt 1 g1
        have HB := Lib.hid hb
        clear hb g1 k2
        go_wp2_with fail
        all_goals
          go_ret
          exact ⟨rfl, HX.out _ HB.out, (Only.of_below HB.out).then (Only.set _ _ _ _) (fun _ _ h => h)⟩
    · have HS : Hid (rsCount m (l, 0) = (0, (l, (rdNum l).2.2))) := Lib.hid (by unfold rsCount rsOf rdCount; simp [hy])
      rw [HS.out]
      have HV : Hid (nextV l I = .tuple #[.int .u64 ((rdNum l).1 : Nat), .int .i64 0, .int .i64 (rdNum l).2.2]) := Lib.hid (by unfold nextV; rw [if_neg hy])
      rw [HV.out] at CN
      have e1 : ((rdNum l).2.2 != 0) = true := by rw [bne_iff_ne]; exact hy
      have e2 : ((rdNum l).2.2 == 0) = false := beq_eq_false_iff_ne.2 hy
      generalize (rdNum l).1 = x at *
      generalize (rdNum l).2.2 = y at *
      have HX : Hid (∀ w', Below w.heap.size w w' → RefW (w'.setCell ⟨r, 2, none⟩ (.int .i64 y)) F r (l, y)) := Lib.hid (fun w' hb => by
        have g1 := (Only.of_below hb (S := fun _ => False)).get h1 (fun h => h)
        have := ref_err (y := y) g1 h2 h4 (h5.below hb) h6 (fun ad e => ⟨(h7 ad e).1, (h7 ad e).2.1, Nat.lt_of_lt_of_le (h7 ad e).2.2 hb.size⟩)
        rwa [← h3] at this)
      have H1 := Lib.hid h1
      clear hy h1 h3 h4 h5 h6 h7 HK
      unfold ptrTo at *
      go_enter Try.func53, Try.ntmps53
      go_wp2_with fail
      refine CN.out.mono ?_
      rintro e w1 ⟨rfl, hb⟩
      have g1 := (Only.of_below hb (S := fun _ => False)).get H1.out (fun h => h)
      have m1 := cellAt (o := 2) g1 rfl
      have m2 := freeAt 2 g1
      have HB := Lib.hid hb
      clear hb g1 k2
      go_wp2_with fail
      all_goals
        go_ret
        exact ⟨rfl, HX.out _ HB.out, (Only.of_below HB.out).then (Only.set _ _ _ _) (fun _ _ h => h)⟩
  · have e1 : (er != 0) = true := by rw [bne_iff_ne]; exact he
    rw [show rsCount m (l, er) = (0, (l, er)) from rsOf_stop _ _ _ he]
    clear he h1 h3 h5 h6 h7
    unfold ptrTo
    go_enter Try.func53, Try.ntmps53
    go_wp2_with fail
    go_ret
    exact ⟨rfl, HK.out, Only.refl _ _⟩
set_option maxRecDepth 100000 in
theorem rsmall_any (x m : Nat) (hx : N64 x) (hm : m ≤ 1099511627776) (w : World) : Calls Try.prog 51 #[.int .u64 x, .int .i64 m] w fun e w' => e = .returned (.int .i64 (cutN (m + 1) x : Nat)) ∧ w = w' := by
  unfold N64 at hx
  have h1 : IntKind.u64.wrap (m : Int) = (m : Int) := by rw [IntKind.wrap_u64]; omega
  have h2 : IntKind.u64.wrap ((m : Int) + 1) = (m : Int) + 1 := by rw [IntKind.wrap_u64]; omega
  by_cases hb : (m : Int) + 1 < (x : Int)
  · have hcx : cutN (m + 1) x = m + 1 := if_neg (by omega)
    rw [hcx]
    have h3 : wrap64 ((m : Int) + 1) = (m : Int) + 1 := by unfold wrap64; omega
    clear hcx
    go_enter Try.func51, Try.ntmps51
    go_wp2_with fail
    all_goals
      go_ret
      exact ⟨by simp, rfl⟩
  · have hcx : cutN (m + 1) x = x := if_pos (by omega)
    rw [hcx]
    have h3 : wrap64 (x : Int) = (x : Int) := by unfold wrap64; omega
    clear hcx
    go_enter Try.func51, Try.ntmps51
    go_wp2_with fail
    all_goals
      go_ret
      exact ⟨rfl, rfl⟩
end Go.Proofs.Ytbhkgnhgecchcaa
