/- The reference's reader of bytes: contracts of its methods, going by 'next'. -/
import Derived.Test.YtbhkgnhgecchcaaRrd
import Derived.Test.YtbhkgnhgecchcaaClo
namespace Go.Proofs.Ytbhkgnhgecchcaa
open Go.RowKit
def RrP (F : Nat → Prop) (r : Nat) (s : Rst) (v : Value) (w : World) (e : Ending) (w' : World) : Prop := e = .returned v ∧ RefW w' F r s ∧ Only (fun k => k = r) w w'
section
variable {w w' : World} {F : Nat → Prop} {r c I n : Nat} {A : Option Addr} {B : List UInt8} {x y : Int}
theorem ref_adv (h1 : w.heap[r]? = some (.cells #[.slice A B.length c, .int .i64 (I : Nat), .int .i64 x] 101 (0, 0))) (h2 : I + n ≤ B.length) (h4 : B.length ≤ 1099511000000) (h5 : Rd w A B) (h6 : F r) (h7 : ∀ ad, A = some ad → F ad.block ∧ ad.block ≠ r ∧ ad.block < w.heap.size) :
    RefW (w.setCell ⟨r, 1, none⟩ (.int .i64 ((I + n : Nat) : Int))) F r ((B.drop I).drop n, x) := by
  have ho := Only.set w r 1 (.int .i64 ((I + n : Nat) : Int))
  refine ⟨A, c, B, I + n, by rw [setCell_get h1]; rfl, h2, by simp, h4, ho.rd h5 (fun ad e => (h7 ad e).2.1), h6, fun ad e => ⟨(h7 ad e).1, (h7 ad e).2.1, Nat.lt_of_lt_of_le (h7 ad e).2.2 ho.size⟩⟩
theorem ref_err (h1 : w.heap[r]? = some (.cells #[.slice A B.length c, .int .i64 (I : Nat), .int .i64 x] 101 (0, 0))) (h2 : I ≤ B.length) (h4 : B.length ≤ 1099511000000) (h5 : Rd w A B) (h6 : F r) (h7 : ∀ ad, A = some ad → F ad.block ∧ ad.block ≠ r ∧ ad.block < w.heap.size) :
    RefW (w.setCell ⟨r, 2, none⟩ (.int .i64 y)) F r (B.drop I, y) := by
  have ho := Only.set w r 2 (.int .i64 y)
  refine ⟨A, c, B, I, by rw [setCell_get h1]; rfl, h2, rfl, h4, ho.rd h5 (fun ad e => (h7 ad e).2.1), h6, fun ad e => ⟨(h7 ad e).1, (h7 ad e).2.1, Nat.lt_of_lt_of_le (h7 ad e).2.2 ho.size⟩⟩
end
set_option maxRecDepth 100000 in
theorem rr_number {F : Nat → Prop} (r : Nat) (s : Rst) (w : World) (h : RefW w F r s) : Calls Try.prog 52 #[ptrTo r] w (RrP F r (rsNum s).2 (vU (rsNum s).1) w) := by
  have HK := Lib.hid h
  obtain ⟨A, c, B, I, h1, h2, h3, h4, h5, h6, h7⟩ := h
  obtain ⟨l, er⟩ := s
  simp only at h1 h3
  have k2 := cellAt (o := 2) h1 rfl
  by_cases he : er = 0
  · subst he
    have CN := Lib.hid (rnext_any A c B I r 0 w h1 h2 h4 h5)
    have HL := Lib.hid (rdNum_len (B.drop I))
    have hd : (B.drop I).length = B.length - I := List.length_drop
    rw [← h3] at CN HL hd
    by_cases hy : (rdNum l).2.2 = 0
    · have HS : Hid (rsNum (l, 0) = ((rdNum l).1, (l.drop (rdNum l).2.1, 0))) := Lib.hid (by unfold rsNum rsOf; simp [hy])
      rw [HS.out]
      have HV : Hid (nextV l I = .tuple #[.int .u64 ((rdNum l).1 : Nat), .int .i64 ((I + (rdNum l).2.1 : Nat) : Int), .int .i64 0]) := Lib.hid (by unfold nextV; rw [hy]; rfl)
      rw [HV.out] at CN
      generalize (rdNum l).1 = x at *
      generalize (rdNum l).2.1 = n at *
      have HX : Hid (∀ w', Below w.heap.size w w' → RefW (w'.setCell ⟨r, 1, none⟩ (.int .i64 ((I + n : Nat) : Int))) F r (l.drop n, 0)) := Lib.hid (fun w' hb => by
        have g1 := (Only.of_below hb (S := fun _ => False)).get h1 (fun h => h)
        have := ref_adv (n := n) g1 (by have := HL.out; omega) h4 (h5.below hb) h6 (fun ad e => ⟨(h7 ad e).1, (h7 ad e).2.1, Nat.lt_of_lt_of_le (h7 ad e).2.2 hb.size⟩)
        rwa [← h3] at this)
      obtain ⟨v, hv⟩ : ∃ v : Int, ((I + n : Nat) : Int) = v := ⟨_, rfl⟩
      rw [hv] at CN HX
      have H1 := Lib.hid h1
      clear hy h1 h3 h4 h5 h6 h7 hv HK
      unfold ptrTo at *
      go_enter Try.func52, Try.ntmps52
      go_wp2_with fail
      refine CN.out.mono ?_
      rintro e w1 ⟨rfl, hb⟩
      have g1 := (Only.of_below hb (S := fun _ => False)).get H1.out (fun h => h)
      have m1 := cellAt (o := 1) g1 rfl
      have m2 := freeAt 1 g1
      have HB := Lib.hid hb
      clear hb g1 k2
      go_wp2_with fail
      go_ret
      exact ⟨rfl, HX.out _ HB.out, (Only.of_below HB.out).then (Only.set _ _ _ _) (fun _ _ h => h)⟩
    · have HS : Hid (rsNum (l, 0) = (0, (l, (rdNum l).2.2))) := Lib.hid (by unfold rsNum rsOf; simp [hy])
      rw [HS.out]
      have HV : Hid (nextV l I = .tuple #[.int .u64 ((rdNum l).1 : Nat), .int .i64 0, .int .i64 (rdNum l).2.2]) := Lib.hid (by unfold nextV; rw [if_neg hy])
      rw [HV.out] at CN
      have e1 : ((rdNum l).2.2 != 0) = true := by rw [bne_iff_ne]; exact hy
      generalize (rdNum l).1 = x at *
      generalize (rdNum l).2.2 = y at *
      have HX : Hid (∀ w', Below w.heap.size w w' → RefW (w'.setCell ⟨r, 2, none⟩ (.int .i64 y)) F r (l, y)) := Lib.hid (fun w' hb => by
        have g1 := (Only.of_below hb (S := fun _ => False)).get h1 (fun h => h)
        have := ref_err (y := y) g1 h2 h4 (h5.below hb) h6 (fun ad e => ⟨(h7 ad e).1, (h7 ad e).2.1, Nat.lt_of_lt_of_le (h7 ad e).2.2 hb.size⟩)
        rwa [← h3] at this)
      have H1 := Lib.hid h1
      clear hy h1 h3 h4 h5 h6 h7 HK
      unfold ptrTo at *
      go_enter Try.func52, Try.ntmps52
      go_wp2_with fail
      refine CN.out.mono ?_
      rintro e w1 ⟨rfl, hb⟩
      have g1 := (Only.of_below hb (S := fun _ => False)).get H1.out (fun h => h)
      have m1 := cellAt (o := 2) g1 rfl
      have m2 := freeAt 2 g1
      have HB := Lib.hid hb
      clear hb g1 k2
      go_wp2_with fail
      go_ret
      exact ⟨rfl, HX.out _ HB.out, (Only.of_below HB.out).then (Only.set _ _ _ _) (fun _ _ h => h)⟩
  · have e1 : (er != 0) = true := by rw [bne_iff_ne]; exact he
    rw [show rsNum (l, er) = (0, (l, er)) from rsOf_stop _ _ _ he]
    clear he h1 h3 h5 h6 h7
    unfold ptrTo
    go_enter Try.func52, Try.ntmps52
    go_wp2_with fail
    go_ret
    exact ⟨rfl, HK.out, Only.refl _ _⟩
/-! ### Truth, Signed, Left, New -/
theorem rd_heap {w w' : World} {A : Option Addr} {l : List UInt8} (h : Rd w A l) (e : w'.heap = w.heap) : Rd w' A l := by
  have h1 := Reads.keep (w' := w') h (fun p _ => World.cell?_of_block (w := w) (by rw [e]))
  unfold Rd; rw [e]; exact h1
theorem half_even {x : Nat} (h : x < 18446744073709551616) : Value.int .i64 (wrap64 (IntKind.u64.wrap ((x : Int) / 2))) = .int .i64 ((x / 2 : Nat) : Int) := by
  congr 1; simp only [wrap64, IntKind.wrap_u64]; omega
theorem half_odd {x : Nat} (h : x < 18446744073709551616) : Value.int .i64 (wrap64 (wrap64 (-wrap64 (IntKind.u64.wrap ((x : Int) / 2))) - 1)) = .int .i64 (-((x / 2 : Nat) : Int) - 1) := by
  congr 1; simp only [wrap64, IntKind.wrap_u64]; omega
theorem rr_signed {F : Nat → Prop} (r : Nat) (s : Rst) (w : World) (h : RefW w F r s) : Calls Try.prog 54 #[ptrTo r] w (RrP F r (rsSigned s).2 (.int .i64 (rsSigned s).1) w) := by
  have HN := Lib.hid (rr_number r s w h)
  have HX := Lib.hid (rsNum_64 s)
  unfold rsSigned
  generalize (rsNum s).1 = x at *
  generalize (rsNum s).2 = u at *
  unfold RrP at HN
  have hx := HX.out
  unfold N64 at hx
  have HU : Hid (unzz x = if x % 2 = 0 then ((x / 2 : Nat) : Int) else -((x / 2 : Nat) : Int) - 1) := Lib.hid rfl
  by_cases hev : x % 2 = 0
  · have e1 : (((x : Int) % 2) == 0) = true := by simp; omega
    unfold ptrTo at *
    go_enter Try.func54, Try.ntmps54
    go_wp2_with fail
    refine HN.out.mono ?_
    rintro e w1 ⟨rfl, hR, ho⟩
    have HR := Lib.hid hR
    have HO := Lib.hid ho
    have HE := Lib.hid hev
    clear hR ho hx hev
    go_wp2_with fail
    go_ret
    refine ⟨ret_eq ?_, HR.out, HO.out⟩
    rw [HU.out, if_pos HE.out]
    have := HX.out
    unfold N64 at this
    exact half_even this
  · have e1 : (((x : Int) % 2) == 0) = false := beq_eq_false_iff_ne.2 (by omega)
    unfold ptrTo at *
    go_enter Try.func54, Try.ntmps54
    go_wp2_with fail
    refine HN.out.mono ?_
    rintro e w1 ⟨rfl, hR, ho⟩
    have HR := Lib.hid hR
    have HO := Lib.hid ho
    have HE := Lib.hid hev
    clear hR ho hx hev
    go_wp2_with fail
    go_ret
    refine ⟨ret_eq ?_, HR.out, HO.out⟩
    rw [HU.out, if_neg HE.out]
    have := HX.out
    unfold N64 at this
    exact half_odd this
def MadeF (w : World) (l : List UInt8) (e : Ending) (w' : World) : Prop := ∃ r, e = .returned (ptrTo r) ∧ RefW w' (fun k => w.heap.size ≤ k) r (l, 0) ∧ Below w.heap.size w w'
theorem rnew_any (A : Option Addr) (c : Nat) (l : List UInt8) (w : World) (hp : Rd w A l) (hl : l.length ≤ 1099511000000) :
    Calls Try.prog 50 #[.slice A l.length c] w (MadeF w l) := by
  have HO : Hid (OwnB (w.alloc (.cells #[] 5)) w.heap.size (.slice (some ⟨w.heap.size, 0, none⟩) 0 0) []) := Lib.hid (World.ownsRow_lit w #[] 0 (Nat.le_refl _) (by decide) rfl)
  have HB := Lib.hid ((Below.refl w.heap.size w).alloc (Nat.le_refl _) (.cells #[] 5))
  have HP := Lib.hid (hp.below HB.out)
  clear hp
  go_enter Try.func50, Try.ntmps50
  go_wp2_with (at_builtin; go_loud (refine wpL_ap rfl _ _ rfl w.heap.size _ [] rfl HO.out _ _ _ l rfl rfl HP.out ?o3 HB.out.size ?o5))
  case o3 => first | omega | (simp; omega)
  case o5 =>
    intro v' w1 HO' hg _
    have HB' := Lib.hid (own_block_below HB.out HO.out hg)
    obtain ⟨A1, c1, rfl, h1, h2, h3⟩ := OwnB.form HO'
    have H4 := Lib.hid HO'
    have H3 := Lib.hid h3
    clear hg HO' h1 h2 h3
    go_wp2_with fail
    go_ret
    refine ⟨w1.heap.size, rfl, ⟨A1, c1, l, 0, by simpa using newB _ _, by omega, by simp, hl, (by simpa using H3.out.below (below_alloc (Below.refl _ _) _)), HB'.out.size, fun ad e => ?_⟩, below_alloc HB'.out _⟩
    have := H4.out.addr ad e
    exact ⟨this.1, by omega, by rw [alloc_size]; omega⟩
end Go.Proofs.Ytbhkgnhgecchcaa
