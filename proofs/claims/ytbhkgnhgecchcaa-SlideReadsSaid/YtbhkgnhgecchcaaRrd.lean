/- The reference's reader of bytes: contracts of its methods. -/
import Derived.Test.YtbhkgnhgecchcaaRdL
import Derived.Test.YtbhkgnhgecchcaaRdr
import Derived.Test.YtbhkgnhgecchcaaOnl
import Derived.RegionTactic
import Derived.ChangeAlike
import Derived.BigRegion
namespace Go.Proofs.Ytbhkgnhgecchcaa
open Go.RowKit
/-- The reference's reader at block r is in the state s; it goes by memory in F. -/
def RefW (w : World) (F : Nat → Prop) (r : Nat) (s : Rst) : Prop := ∃ A c B I, w.heap[r]? = some (.cells #[.slice A (List.length B) c, .int .i64 (I : Nat), .int .i64 s.2] 101 (0, 0)) ∧
  I ≤ B.length ∧ s.1 = B.drop I ∧ B.length ≤ 1099511000000 ∧ Rd w A B ∧ F r ∧ ∀ ad, A = some ad → F ad.block ∧ ad.block ≠ r ∧ ad.block < w.heap.size
section
variable {w w' : World} {F G S : Nat → Prop} {r : Nat} {s : Rst}
theorem RefW.lt (h : RefW w F r s) : r < w.heap.size := by
  obtain ⟨A, c, B, I, h1, _⟩ := h; exact only_lt h1
theorem RefW.keep (h : RefW w F r s) (ho : Only S w w') (hn : ∀ k, F k → k < w.heap.size → ¬ S k) : RefW w' F r s := by
  have hl := h.lt
  obtain ⟨A, c, B, I, h1, h2, h3, h4, h5, h6, h7⟩ := h
  exact ⟨A, c, B, I, ho.get h1 (hn _ h6 hl), h2, h3, h4, ho.rd h5 (fun ad e => hn _ (h7 ad e).1 (h7 ad e).2.2), h6, fun ad e => ⟨(h7 ad e).1, (h7 ad e).2.1, Nat.lt_of_lt_of_le (h7 ad e).2.2 ho.size⟩⟩
theorem RefW.weak (h : RefW w F r s) (hG : ∀ k, F k → G k) : RefW w G r s := by
  obtain ⟨A, c, B, I, h1, h2, h3, h4, h5, h6, h7⟩ := h
  exact ⟨A, c, B, I, h1, h2, h3, h4, h5, hG _ h6, fun ad e => ⟨hG _ (h7 ad e).1, (h7 ad e).2⟩⟩
theorem RefW.old (h : RefW w F r s) : RefW w (fun k => F k ∧ k < w.heap.size) r s := by
  have hl := h.lt
  obtain ⟨A, c, B, I, h1, h2, h3, h4, h5, h6, h7⟩ := h
  exact ⟨A, c, B, I, h1, h2, h3, h4, h5, ⟨h6, hl⟩, fun ad e => ⟨⟨(h7 ad e).1, (h7 ad e).2.2⟩, (h7 ad e).2⟩⟩
theorem RefW.below (h : RefW w F r s) (hb : Below w.heap.size w w') : RefW w' F r s := h.keep (S := fun _ => False) (Only.of_below hb) (fun _ _ _ h => h)
end
theorem drop_get {B : List UInt8} {I k : Nat} (h : k < (B.drop I).length) : (B.drop I)[k] = B[I + k]'(by rw [List.length_drop] at h; omega) := by simp
def nextV (l : List UInt8) (I : Nat) : Value := .tuple #[.int .u64 ((rdNum l).1 : Nat), .int .i64 (if (rdNum l).2.2 = 0 then ((I + (rdNum l).2.1 : Nat) : Int) else 0), .int .i64 (rdNum l).2.2]
theorem ret_eq {v v' : Value} (h : v = v') : Ending.returned v = .returned v' := by rw [h]
set_option maxRecDepth 100000 in
theorem rnext_any (A : Option Addr) (c : Nat) (B : List UInt8) (I r : Nat) (E : Int) (w : World) (hr : w.heap[r]? = some (.cells #[.slice A B.length c, .int .i64 (I : Nat), .int .i64 E] 101 (0, 0))) (hI : I ≤ B.length) (hl : B.length ≤ 1099511000000) (hp : Rd w A B) :
    Calls Try.prog 67 #[ptrTo r] w fun e w' => e = .returned (nextV (B.drop I) I) ∧ Below w.heap.size w w' := by
  have hll : (B.drop I).length = B.length - I := List.length_drop
  have k0 := cellAt (o := 0) hr rfl
  have k1 := cellAt (o := 1) hr rfl
  unfold ptrTo
  clear hr
  rcases Nat.eq_or_lt_of_le hI with h0 | h0
  · have hd : rdNum (B.drop I) = (0, 0, 5) := by rw [List.drop_eq_nil_of_le (by omega)]; rfl
    have e0 : ((I : Int) == (B.length : Int)) = true := by simp; omega
    have HD := Lib.hid hd
    clear h0 hI hd hll
    go_enter Try.func67, Try.ntmps67
    go_wp2_with fail
    go_region
    all_goals
      go_wp2_with fail
      go_ret3
      exact ⟨ret_eq (by unfold nextV; rw [HD.out]; rfl), (Below.refl _ _).drew⟩
  have hl0 : 0 < (B.drop I).length := by omega
  have e0 : ((I : Int) == (B.length : Int)) = false := beq_eq_false_iff_ne.2 (by omega)
  have HP := Lib.hid hp
  obtain ⟨ad, rfl, hb, c0⟩ := hp.at_ (k := I) h0
  have i0 : (I : Int) < (B.length : Int) := by omega
  have h00 : (B.drop I)[0] = B[I] := by simp
  rw [← h00] at c0
  obtain ⟨q, hq⟩ : ∃ q, (B.drop I)[0].toNat = q := ⟨_, rfl⟩
  have R1 : 8 < q → rdNum (B.drop I) = (0, 0, 4) := by subst hq; exact rdNum_big hl0
  have R2 : ¬ 8 < q → (B.drop I).length < 1 + q → rdNum (B.drop I) = (0, 0, 5) := by subst hq; exact rdNum_more hl0
  have R3 : ∀ (_ : ¬ 8 < q) (_ : ¬ (B.drop I).length < 1 + q) (_ : 0 < q) (hx : I + q < B.length), B[I + q].toNat = 0 → rdNum (B.drop I) = (0, 0, 4) := by
    subst hq; intro h1 h2 h3 hx h4; exact rdNum_zero hl0 h1 h2 h3 (by rw [drop_get]; exact h4)
  have R4 : ∀ (_ : ¬ 8 < q) (_ : ¬ (B.drop I).length < 1 + q), (∀ (_ : 0 < q) (hx : I + q < B.length), B[I + q].toNat ≠ 0) → rdNum (B.drop I) = (leV (((B.drop I).take (1 + q)).drop 1), 1 + q, 0) := by
    subst hq; intro h1 h2 h3; exact rdNum_ok hl0 h1 h2 (fun h => by rw [drop_get]; exact h3 h (by omega))
  have hq0 : q < 256 := by rw [← hq]; exact UInt8.toNat_lt _
  rw [hq] at c0
  replace R1 := Lib.hid R1
  replace R2 := Lib.hid R2
  replace R3 := Lib.hid R3
  replace R4 := Lib.hid R4
  clear hq h00 hp
  by_cases h8 : 8 < q
  · have HD := Lib.hid (R1.out h8)
    have e1 : (8 : Int) < (q : Int) := by omega
    clear R1 R2 R3 R4 h8
    go_enter Try.func67, Try.ntmps67
    go_wp2_with fail
    go_region
    all_goals
      go_wp2_with fail
      go_region
    all_goals
      go_wp2_with fail
      go_ret3
      exact ⟨ret_eq (by unfold nextV; rw [HD.out]; rfl), (Below.refl _ _).drew.drew⟩
  have e1 : ¬ (8 : Int) < (q : Int) := by omega
  by_cases hm : (B.drop I).length < 1 + q
  · have HD := Lib.hid (R2.out h8 hm)
    have e2 : (B.length : Int) < (I : Int) + 1 + (q : Int) := by omega
    clear R1 R2 R3 R4 h8 hm
    go_enter Try.func67, Try.ntmps67
    go_wp2_with fail
    go_region
    all_goals
      go_wp2_with fail
      go_region
    all_goals
      go_wp2_with fail
      go_ret3
      exact ⟨ret_eq (by unfold nextV; rw [HD.out]; rfl), (Below.refl _ _).drew.drew⟩
  have e2 : ¬ (B.length : Int) < (I : Int) + 1 + (q : Int) := by omega
  by_cases hq1 : 0 < q
  · have e3 : (0 : Int) < (q : Int) := by omega
    have i3 : (I : Int) + (q : Int) < (B.length : Int) := by omega
    obtain ⟨ad', hh, _, cq⟩ := HP.out.at_ (k := I + q) (by omega)
    cases hh
    by_cases hz : B[I + q].toNat = 0
    · have HD := Lib.hid (R3.out h8 hm hq1 (by omega) hz)
      rw [hz] at cq
      clear R1 R2 R3 R4 h8 hm hz
      go_enter Try.func67, Try.ntmps67
      go_wp2_with fail
      go_region
      all_goals
        go_wp2_with fail
        go_region
      all_goals
        go_wp2_with fail
        go_ret3
        exact ⟨ret_eq (by unfold nextV; rw [HD.out]; rfl), (Below.refl _ _).drew.drew⟩
    · have HD := Lib.hid (R4.out h8 hm (fun _ _ => hz))
      have e4 : ((B[I + q].toNat : Int) == 0) = false := beq_eq_false_iff_ne.2 (by omega)
      generalize B[I + q].toNat = y at *
      have hIq : I + q < B.length := by omega
      clear R1 R2 R3 R4 h8 hm hz
      go_enter Try.func67, Try.ntmps67
      go_wp2_with fail
      go_region
      all_goals
        go_wp2_with fail
        go_region
      all_goals
        go_wp2_with fail
        go_loop [7, 8] (fun x i => ∃ k : Nat, k ≤ q ∧ i = .int .i64 ((I + k : Nat) : Int) ∧ x = .int .u64 (leV (((B.drop I).take (1 + q)).drop (k + 1)) : Nat)) (fun _ i => (intOf i).toNat - I)
        case atStart => exact ⟨q, Nat.le_refl _, by go_num, by rw [List.drop_eq_nil_of_le (by rw [List.length_take]; omega)]; rfl⟩
        case round =>
          obtain ⟨k, hk, rfl, rfl⟩ := hrel
          by_cases hlt : 0 < k
          · try (exfalso; omega)
            all_goals
              have e5 : (I : Int) < ((I + k : Nat) : Int) := by omega
              obtain ⟨ad', hh, _, ck⟩ := HP.out.at_ (k := I + k) (by omega)
              cases hh
              have i1 : ((I + k : Nat) : Int) < (B.length : Int) := by omega
              generalize hx : leV (((B.drop I).take (1 + q)).drop (k + 1)) = x at *
              generalize hy : B[I + k].toNat = z at *
              have HX := Lib.hid hx
              have HY := Lib.hid hy
              clear hx hy
              go_wp2_with fail
              go_round
              case rel =>
                refine ⟨k - 1, by omega, by congr 1; omega, ?_⟩
                have hlen : ((B.drop I).take (1 + q)).length = 1 + q := by rw [List.length_take]; omega
                have hb1 := leV_drop_lt ((B.drop I).take (1 + q)) (k + 1) (by omega) (by omega)
                have hb2 : z < 256 := by rw [← HY.out]; exact UInt8.toNat_lt _
                have hd := leV_drop ((B.drop I).take (1 + q)) k (by omega)
                rw [HX.out] at hb1 hd
                rw [List.getElem_take, drop_get, HY.out] at hd
                rw [show k - 1 + 1 = k by omega, hd]
                congr 1
                simp only [IntKind.wrap_u64]
                omega
              case measure => simp [intOf]; omega
          · obtain rfl : k = 0 := by omega
            have e5 : ¬ (I : Int) < ((I + 0 : Nat) : Int) := by omega
            go_wp2_with fail
            go_ret3
            refine ⟨ret_eq ?_, (Below.refl _ _).drew.drew⟩
            unfold nextV
            rw [HD.out]
            simp
            try omega
  · have e3 : ¬ (0 : Int) < (q : Int) := by omega
    have HD := Lib.hid (R4.out h8 hm (fun h => absurd h (by omega)))
    have hIq : I + q < B.length := by omega
    clear R1 R2 R3 R4 h8 hm hq1
    go_enter Try.func67, Try.ntmps67
    go_wp2_with fail
    go_region
    all_goals
      go_wp2_with fail
      go_region
    all_goals
      go_wp2_with fail
      go_loop [7, 8] (fun x i => ∃ k : Nat, k ≤ q ∧ i = .int .i64 ((I + k : Nat) : Int) ∧ x = .int .u64 (leV (((B.drop I).take (1 + q)).drop (k + 1)) : Nat)) (fun _ i => (intOf i).toNat - I)
      case atStart => exact ⟨q, Nat.le_refl _, by go_num, by rw [List.drop_eq_nil_of_le (by rw [List.length_take]; omega)]; rfl⟩
      case round =>
        obtain ⟨k, hk, rfl, rfl⟩ := hrel
        by_cases hlt : 0 < k
        · try (exfalso; omega)
          all_goals
            have e5 : (I : Int) < ((I + k : Nat) : Int) := by omega
            obtain ⟨ad', hh, _, ck⟩ := HP.out.at_ (k := I + k) (by omega)
            cases hh
            have i1 : ((I + k : Nat) : Int) < (B.length : Int) := by omega
            generalize hx : leV (((B.drop I).take (1 + q)).drop (k + 1)) = x at *
            generalize hy : B[I + k].toNat = z at *
            have HX := Lib.hid hx
            have HY := Lib.hid hy
            clear hx hy
            go_wp2_with fail
            go_round
            case rel =>
              refine ⟨k - 1, by omega, by congr 1; omega, ?_⟩
              have hlen : ((B.drop I).take (1 + q)).length = 1 + q := by rw [List.length_take]; omega
              have hb1 := leV_drop_lt ((B.drop I).take (1 + q)) (k + 1) (by omega) (by omega)
              have hb2 : z < 256 := by rw [← HY.out]; exact UInt8.toNat_lt _
              have hd := leV_drop ((B.drop I).take (1 + q)) k (by omega)
              rw [HX.out] at hb1 hd
              rw [List.getElem_take, drop_get, HY.out] at hd
              rw [show k - 1 + 1 = k by omega, hd]
              congr 1
              simp only [IntKind.wrap_u64]
              omega
            case measure => simp [intOf]; omega
        · obtain rfl : k = 0 := by omega
          have e5 : ¬ (I : Int) < ((I + 0 : Nat) : Int) := by omega
          go_wp2_with fail
          go_ret3
          refine ⟨ret_eq ?_, (Below.refl _ _).drew.drew⟩
          unfold nextV
          rw [HD.out]
          simp
          try omega
end Go.Proofs.Ytbhkgnhgecchcaa
