/- four, Text, Clone, the reference's Sum: contracts. -/
import Derived.Test.YtboldddmknpchaaWFr
import Derived.Test.YtboldddmknpchaaCrc
import Derived.Lib.ConvBytes
import Derived.Lib.AppendStr
namespace Go.Proofs.Ytboldddmknpchaa
open Go.RowKit
/-- Bytes and an errno are returned. -/
def TupB (base : Nat) (w : World) (l : List UInt8) (r : Int) (e : Ending) (w' : World) : Prop := ∃ v, e = .returned (.tuple #[v, .int .i64 r]) ∧ OwnB w' base v l ∧ Below base w w'
theorem TupB.named {base : Nat} {w : World} {L : List UInt8} {r : Int} {e : Ending} {w' : World} (h : TupB base w L r e w') : ∃ A c m, e = .returned (.tuple #[.slice A (List.length m) c, .int .i64 r]) ∧ Hid (m = L) ∧ Hid (Rd w' A m) ∧ Hid (OwnB w' base (.slice A m.length c) m) ∧ Hid (Below base w w') := by
  obtain ⟨v, rfl, ho, hb⟩ := h
  obtain ⟨A, c, rfl, h1, h2, h3⟩ := ho.form
  exact ⟨A, c, L, rfl, rfl, h3, ho, hb⟩
theorem u8_div (x d : Nat) : IntKind.u8.wrap ((x : Int) / (d : Int)) = ((UInt8.ofNat (x / d)).toNat : Int) := by
  rw [← u8_of (x / d)]; rfl
set_option maxRecDepth 100000 in
theorem four_any (x : Nat) (w : World) : Calls Try.prog 30 #[.int .u32 x] w (FreshB w (le4 x)) := by
  have u0 := u8_of x
  have u1 : IntKind.u8.wrap ((x : Int) / 256) = _ := u8_div x 256
  have u2 : IntKind.u8.wrap ((x : Int) / 65536) = _ := u8_div x 65536
  have u3 : IntKind.u8.wrap ((x : Int) / 16777216) = _ := u8_div x 16777216
  have HL : le4 x = [UInt8.ofNat x, UInt8.ofNat (x / 256), UInt8.ofNat (x / 65536), UInt8.ofNat (x / 16777216)] := rfl
  generalize UInt8.ofNat x = b0 at *
  generalize UInt8.ofNat (x / 256) = b1 at *
  generalize UInt8.ofNat (x / 65536) = b2 at *
  generalize UInt8.ofNat (x / 16777216) = b3 at *
  rw [HL]
  clear HL
  go_enter Try.func30, Try.ntmps30
  go_wp2_with fail
  go_ret
  exact ⟨_, rfl, World.ownsRow_lit w #[.int .u8 (b0.toNat : Int), .int .u8 (b1.toNat : Int), .int .u8 (b2.toNat : Int), .int .u8 (b3.toNat : Int)] 4 (Nat.le_refl _) (by decide) rfl, (Below.refl _ _).alloc (Nat.le_refl _) _⟩
set_option maxRecDepth 100000 in
theorem rfour_any (base : Nat) (v : Value) (l : List UInt8) (x : Nat) (w : World) (ho : OwnB w base v l) (hbase : base ≤ w.heap.size) (hl : l.length ≤ 1099511000000) :
    Calls Try.prog 31 #[v, .int .u32 x] w (MadeB base w (l ++ le4 x)) := by
  have HV := Lib.hid ho
  clear ho
  have u0 := u8_of x
  have u1 : IntKind.u8.wrap ((x : Int) / 256) = _ := u8_div x 256
  have u2 : IntKind.u8.wrap ((x : Int) / 65536) = _ := u8_div x 65536
  have u3 : IntKind.u8.wrap ((x : Int) / 16777216) = _ := u8_div x 16777216
  have HL : le4 x = [UInt8.ofNat x, UInt8.ofNat (x / 256), UInt8.ofNat (x / 65536), UInt8.ofNat (x / 16777216)] := rfl
  generalize UInt8.ofNat x = b0 at *
  generalize UInt8.ofNat (x / 256) = b1 at *
  generalize UInt8.ofNat (x / 65536) = b2 at *
  generalize UInt8.ofNat (x / 16777216) = b3 at *
  rw [HL]
  clear HL
  have HA := Lib.hid ((Below.refl w.heap.size w).alloc (Nat.le_refl _) (.cells #[.int .u8 (b0.toNat : Int), .int .u8 (b1.toNat : Int), .int .u8 (b2.toNat : Int), .int .u8 (b3.toNat : Int)] 5))
  have HV2 := Lib.hid (HV.out.below HA.out)
  have HS := Lib.hid (Nat.le_trans hbase HA.out.size)
  have HR := Lib.hid (Rd.new w [b0, b1, b2, b3])
  go_enter Try.func31, Try.ntmps31
  go_wp2_with (at_builtin; go_loud (refine wpL_ap rfl _ _ rfl base _ l rfl HV2.out _ 4 4 [b0, b1, b2, b3] rfl rfl HR.out ?o3 HS.out ?o5))
  case o3 => first | omega | (simp; omega)
  case o5 =>
    intro v1 w1 HO1 hg1 hv1
    have HB1 := Lib.hid (made_below (HA.out.mono hbase) HV2.out HS.out hg1)
    have HO1 := Lib.hid HO1
    clear hg1 hv1
    go_wp2_with fail
    go_ret
    exact ⟨_, rfl, HO1.out, HB1.out⟩
set_option maxRecDepth 100000 in
theorem clone_any (A : Option Addr) (c : Nat) (l : List UInt8) (w : World) (hp : Rd w A l) (hl : l.length ≤ 1099511000000) :
    Calls Try.prog 33 #[.slice A l.length c] w (FreshB w l) := by
  have HO : Hid (OwnB (w.alloc (.cells #[] 5)) w.heap.size (.slice (some ⟨w.heap.size, 0, none⟩) 0 0) []) := Lib.hid (World.ownsRow_lit w #[] 0 (Nat.le_refl _) (by decide) rfl)
  have HB := Lib.hid ((Below.refl w.heap.size w).alloc (Nat.le_refl _) (.cells #[] 5))
  have HP := Lib.hid (hp.below HB.out)
  have hq := fun (W : World) (a : Option Addr) (n c : Nat) => Lib.run_eql_slice_nil (P := Try.prog) W 22 5 a n c 0 0 Try.underlying22
  cases A with
  | none =>
    have h0 : l = [] := by
      rcases Nat.eq_zero_or_pos l.length with h | h
      · exact List.eq_nil_of_length_eq_zero h
      · obtain ⟨ad, e, _⟩ := hp.2 h; cases e
    subst h0
    clear hp
    go_enter Try.func33, Try.ntmps33
    go_wp2
    go_ret
    exact ⟨_, rfl, OwnB.nil_, Below.refl _ _⟩
  | some ad =>
    clear hp
    go_enter Try.func33, Try.ntmps33
    go_wp2_with (at_builtin; go_loud (refine wpL_ap rfl _ _ rfl w.heap.size _ [] rfl HO.out _ _ _ l rfl rfl HP.out ?o3 HB.out.size ?o5))
    case o3 => first | omega | (simp; omega)
    case o5 =>
      intro v' w' HO' hg _
      have HB' := Lib.hid (own_block_below HB.out HO.out hg)
      have HO' := Lib.hid HO'
      clear hg
      go_wp2_with fail
      go_ret
      exact ⟨_, rfl, HO'.out, HB'.out⟩
end Go.Proofs.Ytboldddmknpchaa
