/- Contracts of the wire package's reference functions that put bytes (they append onto what they are given). -/
import Derived.Test.YtjcbikkihijkiaaWir
import Derived.WalkKit
import Derived.Lib.Hide
import Derived.IntWalk
namespace Go.Proofs.Ytjcbikkihijkiaa
open Go.RowKit
/-- A call that appends onto a row of the caller's own, from block base on. -/
def MadeB (base : Nat) (w : World) (l : List UInt8) (e : Ending) (w' : World) : Prop := ∃ v, e = .returned v ∧ OwnB w' base v l ∧ Below base w w'
theorem MadeB.named {base : Nat} {w : World} {L : List UInt8} {e : Ending} {w' : World} (h : MadeB base w L e w') : ∃ A c m, e = .returned (.slice A (List.length m) c) ∧ Hid (m = L) ∧ Hid (Rd w' A m) ∧ Hid (OwnB w' base (.slice A m.length c) m) ∧ Hid (Below base w w') := by
  obtain ⟨v, rfl, ho, hb⟩ := h
  obtain ⟨A, c, rfl, h1, h2, h3⟩ := ho.form
  exact ⟨A, c, L, rfl, rfl, h3, ho, hb⟩
theorem Rd.far {w w' : World} {A : Option Addr} {l : List UInt8} {row : Option Nat} (h : Rd w A l) (hg : w.grownBy w' row) (hr : ∀ ad, A = some ad → some ad.block ≠ row) : Rd w' A l := by
  refine ⟨h.1, fun hn => ?_⟩
  obtain ⟨ad, e, hb, hc⟩ := h.2 hn
  exact ⟨ad, e, Nat.lt_of_lt_of_le hb hg.size, fun j u hu => World.grownBy.cell hg (hc j u hu) (by rw [block_of_add]; exact hr ad e)⟩
theorem OwnB.block {w : World} {base : Nat} {A : Option Addr} {n c : Nat} {l : List UInt8} (h : OwnB w base (.slice A n c) l) : ∀ ad, A = some ad → base ≤ ad.block ∧ ad.block < w.heap.size := by
  intro ad e
  subst e
  exact h.lt ad.block rfl
theorem made_below {base : Nat} {w w' : World} {v : Value} {l : List UInt8} {w0 : World} (hb : Below base w0 w) (ho : OwnB w base v l) (hB : base ≤ w.heap.size) (hg : w.grownBy w' v.ownBlock) : Below base w0 w' :=
  hb.grown hg hB (fun k e => (ho.lt k e).1)

set_option maxRecDepth 100000 in
theorem rnumber_any (base : Nat) (v : Value) (l : List UInt8) (x : Nat) (hx : N64 x) (w : World) (ho : OwnB w base v l) (hbase : base ≤ w.heap.size) (hl : l.length ≤ 1099511000000) :
    Calls Try.prog 46 #[v, .int .u64 x] w (MadeB base w (l ++ numB x)) := by
  have HX := Lib.hid (leB_len 8 x hx)
  have HV := Lib.hid ho
  clear hx ho
  go_enter Try.func46, Try.ntmps46
  go_wp2_with fail
  go_loopw [1, 5] (fun y u wr => ∃ (n : Nat) (done : List UInt8), n ≤ x ∧ y = .int .u64 n ∧ Hid (done ++ leB n = leB x) ∧ Hid (OwnB wr w.heap.size u done) ∧ Hid (Below w.heap.size w wr)) (fun y _ _ => (intOf y).toNat)
  case atStart => exact ⟨x, [], Nat.le_refl _, rfl, Lib.hid rfl, Lib.hid OwnB.nil_, Lib.hid (Below.refl _ _)⟩
  case round =>
    obtain ⟨n, done, hn, rfl, HD, HO, HB⟩ := hrel
    by_cases h0 : 0 < n
    · have e0 : (0 : Int) < (n : Int) := by omega
      have hu := u8_of n
      obtain ⟨b, hb⟩ : ∃ b, UInt8.ofNat n = b := ⟨_, rfl⟩
      rw [hb] at hu
      have HU := Lib.hid hb
      clear hb
      have HA := Lib.hid ((Below.refl wr.heap.size wr).alloc (Nat.le_refl _) (.cells #[.int .u8 (b.toNat : Int)] 5))
      go_wp2_with (at_builtin; go_loud (refine wpL_ap rfl _ _ rfl w.heap.size _ done rfl (HO.out.below HA.out) _ 1 1 [b] rfl rfl (Rd.new _ [b]) ?o3 (HB.out.alloc HB.out.size _).size ?o5))
      case o3 =>
        have h1 := congrArg List.length HD.out
        have h2 := HX.out
        simp only [List.length_append, List.length_cons, List.length_nil] at *
        omega
      case o5 =>
        intro v' w' HO' hg _
        go_wp2_with fail
        go_roundw
        case rel =>
          have hb' : Below w.heap.size w w' := own_block_below (HB.out.alloc HB.out.size _) (HO.out.below HA.out) hg
          refine ⟨n / 256, done ++ [b], by omega, by simp, Lib.hid ?_, Lib.hid HO', Lib.hid hb'⟩
          rw [List.append_assoc, ← HD.out, leB_pos h0, HU.out]
          rfl
        case measure => simp [intOf]; omega
    · have e0 : ¬ ((0 : Int) < (n : Int)) := by omega
      obtain rfl : n = 0 := by omega
      have h := HD.out
      rw [leB_zero, List.append_nil] at h
      rw [h] at HO
      obtain ⟨A5, c5, rfl, _, _, hr5⟩ := HO.out.form
      have h8 := HX.out
      have hu := u8_of (leB x).length
      obtain ⟨b, hb⟩ : ∃ b, UInt8.ofNat (leB x).length = b := ⟨_, rfl⟩
      rw [hb] at hu
      have HU := Lib.hid hb
      have HR5 := Lib.hid hr5
      have HA := Lib.hid ((Below.refl wr.heap.size wr).alloc (Nat.le_refl _) (.cells #[.int .u8 (b.toNat : Int)] 5))
      have HV2 := Lib.hid ((HV.out.below HB.out).below HA.out)
      have HS := Lib.hid (Nat.le_trans hbase (Nat.le_trans HB.out.size HA.out.size))
      clear h hb hr5 HD
      go_wp2_with (at_builtin; go_loud (refine wpL_ap rfl (.tmp 15) (.tmp 19) rfl base _ l rfl HV2.out _ 1 1 [b] rfl rfl (Rd.new _ [b]) ?o3 HS.out ?o5))
      case o3 => first | omega | (simp; omega)
      case o5 =>
        intro v1 w1 HO1 hg1 hv1
        have HO1 := Lib.hid HO1
        have HR6 : Hid (Rd w1 A5 (leB x)) := Lib.hid ((HR5.out.below HA.out).far hg1 (fun ad e h => by
          have h1 := HO.out.block ad e
          have h2 := HV.out.lt ad.block h.symm
          omega))
        have HB1 : Hid (Below base w w1) := Lib.hid (made_below ((HB.out.mono hbase).trans (HA.out.mono (Nat.le_trans hbase HB.out.size))) HV2.out HS.out hg1)
        have HS1 := Lib.hid (Nat.le_trans hbase HB1.out.size)
        clear hg1 hv1
        go_wp2_with (at_builtin; go_loud (refine wpL_ap rfl (.tmp 20) (.tmp 21) rfl base _ (l ++ [b]) rfl HO1.out A5 _ c5 (leB x) rfl rfl HR6.out ?o3 HS1.out ?o5))
        case o3 => first | omega | (simp; omega)
        case o5 =>
          intro v2 w2 HO2 hg2 hv2
          have HB2 := Lib.hid (made_below HB1.out HO1.out HS1.out hg2)
          have HO2 : Hid (OwnB w2 base v2 (l ++ numB x)) := by
            unfold numB
            rw [HU.out]
            exact HO2
          clear hg2 hv2
          go_wp2_with fail
          go_ret
          exact ⟨_, rfl, HO2.out, HB2.out⟩

theorem rzz_neg {x : Int} (h : In64 x) (h0 : x < 0) : IntKind.u64.wrap (IntKind.u64.wrap (2 * IntKind.u64.wrap (wrap64 (-wrap64 (x + 1)))) + 1) = (zz x : Int) := by
  obtain ⟨h1, h2⟩ := h
  simp only [IntKind.wrap_u64, wrap64]
  unfold zz; rw [if_pos h0]; omega
theorem rzz_pos {x : Int} (h : In64 x) (h0 : ¬ x < 0) : IntKind.u64.wrap (2 * IntKind.u64.wrap x) = (zz x : Int) := by
  obtain ⟨h1, h2⟩ := h
  simp only [IntKind.wrap_u64]
  unfold zz; rw [if_neg h0]; omega
set_option maxRecDepth 100000 in
theorem rsigned_any (base : Nat) (v : Value) (l : List UInt8) (x : Int) (hx : In64 x) (w : World) (ho : OwnB w base v l) (hbase : base ≤ w.heap.size) (hl : l.length ≤ 1099511000000) :
    Calls Try.prog 47 #[v, .int .i64 x] w (MadeB base w (l ++ numB (zz x))) := by
  have CN := Lib.hid (rnumber_any base v l (zz x) (zz_64 hx.1 hx.2) w ho hbase hl)
  have HX := Lib.hid hx
  clear hx ho
  by_cases h0 : x < 0
  · have HZ := Lib.hid (rzz_neg HX.out h0)
    have e0 : decide (0 ≤ x) = false := by simp; omega
    go_enter Try.func47, Try.ntmps47
    go_wp2_with fail
    rw [HZ.out]
    refine CN.out.mono ?_
    rintro e w2 ⟨v2, rfl, h1, h2⟩
    have H1 := Lib.hid h1
    have H2 := Lib.hid h2
    clear h1 h2
    go_wp2_with fail
    go_ret
    exact ⟨_, rfl, H1.out, H2.out⟩
  · have HZ := Lib.hid (rzz_pos HX.out h0)
    have e0 : decide (0 ≤ x) = true := by simp; omega
    go_enter Try.func47, Try.ntmps47
    go_wp2_with fail
    rw [HZ.out]
    refine CN.out.mono ?_
    rintro e w2 ⟨v2, rfl, h1, h2⟩
    have H1 := Lib.hid h1
    have H2 := Lib.hid h2
    clear h1 h2
    go_wp2_with fail
    go_ret
    exact ⟨_, rfl, H1.out, H2.out⟩
end Go.Proofs.Ytjcbikkihijkiaa
