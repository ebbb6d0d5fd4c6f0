/- four, told: contracts, the program's and the reference's. -/
import Derived.Test.YtboldddmknpchaaWRef
import Derived.Test.YtboldddmknpchaaCrcL
namespace Go.Proofs.Ytboldddmknpchaa
open Go.RowKit
/-- Four bytes of a number. -/
def le4 (x : Nat) : List UInt8 := [UInt8.ofNat x, UInt8.ofNat (x / 256), UInt8.ofNat (x / 65536), UInt8.ofNat (x / 16777216)]
def told4 (l : List UInt8) : Nat := (l.getD 0 0).toNat + 256 * (l.getD 1 0).toNat + 65536 * (l.getD 2 0).toNat + 16777216 * (l.getD 3 0).toNat
theorem told4_lt (l : List UInt8) : told4 l < 4294967296 := by
  have h0 := (l.getD 0 0).toNat_lt
  have h1 := (l.getD 1 0).toNat_lt
  have h2 := (l.getD 2 0).toNat_lt
  have h3 := (l.getD 3 0).toNat_lt
  unfold told4; omega
/-- Four bytes at the beginning. -/
theorem Rd.four {w : World} {A : Option Addr} {l : List UInt8} (h : Rd w A l) (hl : 4 ≤ l.length) : ∃ ad, A = some ad ∧ ad.block < w.heap.size ∧ w.cell? ad = some (.int .u8 ((l.getD 0 0).toNat : Int)) ∧ w.cell? ⟨ad.block, ad.off + 1, none⟩ = some (.int .u8 ((l.getD 1 0).toNat : Int)) ∧ w.cell? ⟨ad.block, ad.off + 2, none⟩ = some (.int .u8 ((l.getD 2 0).toNat : Int)) ∧ w.cell? ⟨ad.block, ad.off + 3, none⟩ = some (.int .u8 ((l.getD 3 0).toNat : Int)) := by
  obtain ⟨ad, e, hb, h0⟩ := h.at_ (k := 0) (by omega)
  subst e
  have g : ∀ k (hk : k < l.length), w.cell? (ad.add k) = some (.int .u8 ((l.getD k 0).toNat : Int)) := fun k hk => by
    obtain ⟨ad', e, _, hc⟩ := h.at_ hk
    cases e
    rw [hc, List.getD_eq_getElem?_getD, List.getElem?_eq_getElem hk]; rfl
  refine ⟨ad, rfl, hb, ?_, g 1 (by omega), g 2 (by omega), g 3 (by omega)⟩
  have := g 0 (by omega)
  rwa [add_zero_] at this
theorem bits_or32 {a b : Nat} (k : Nat) (hk : k ≤ 24) (ha : a < 2 ^ k) (hb : b < 256) : bits BinOp.or IntKind.u32 (a : Int) ((2 ^ k * b : Nat) : Int) = ((a + 2 ^ k * b : Nat) : Int) := by
  show IntKind.u32.wrap ((BitVec.ofInt 32 _ ||| BitVec.ofInt 32 _).toNat : Int) = _
  have h1 : (2 : Nat) ^ k ≤ 16777216 := Nat.pow_le_pow_right (by omega) hk
  have h2 : 2 ^ k * b ≤ 2 ^ k * 255 := Nat.mul_le_mul_left _ (by omega)
  have e := @Nat.two_pow_add_eq_or_of_lt k a ha b
  rw [IntKind.wrap_u32, BitVec.toNat_or, BitVec.toNat_ofInt, BitVec.toNat_ofInt]
  have e1 : ((a : Int) % ((2 ^ 32 : Nat) : Int)).toNat = a := by omega
  have e2 : (((2 ^ k * b : Nat) : Int) % ((2 ^ 32 : Nat) : Int)).toNat = 2 ^ k * b := by omega
  rw [e1, e2, Nat.or_comm, ← e]; omega
def bt4 (b0 b1 b2 b3 : UInt8) : Nat := b0.toNat + 256 * b1.toNat + 65536 * b2.toNat + 16777216 * b3.toNat
theorem told_or (b0 b1 b2 b3 : UInt8) : bits BinOp.or IntKind.u32 (bits BinOp.or IntKind.u32 (bits BinOp.or IntKind.u32 (IntKind.u32.wrap (b0.toNat : Int)) (IntKind.u32.wrap (IntKind.u32.wrap (b1.toNat : Int) * 256))) (IntKind.u32.wrap (IntKind.u32.wrap (b2.toNat : Int) * 65536))) (IntKind.u32.wrap (IntKind.u32.wrap (b3.toNat : Int) * 16777216)) = ((bt4 b0 b1 b2 b3 : Nat) : Int) := by
  have h0 : b0.toNat < 256 := b0.toNat_lt
  have h1 : b1.toNat < 256 := b1.toNat_lt
  have h2 : b2.toNat < 256 := b2.toNat_lt
  have h3 : b3.toNat < 256 := b3.toNat_lt
  have e0 : IntKind.u32.wrap (b0.toNat : Int) = ((b0.toNat : Nat) : Int) := by rw [IntKind.wrap_u32]; omega
  have e1 : IntKind.u32.wrap (IntKind.u32.wrap (b1.toNat : Int) * 256) = ((2 ^ 8 * b1.toNat : Nat) : Int) := by simp only [IntKind.wrap_u32]; omega
  have e2 : IntKind.u32.wrap (IntKind.u32.wrap (b2.toNat : Int) * 65536) = ((2 ^ 16 * b2.toNat : Nat) : Int) := by simp only [IntKind.wrap_u32]; omega
  have e3 : IntKind.u32.wrap (IntKind.u32.wrap (b3.toNat : Int) * 16777216) = ((2 ^ 24 * b3.toNat : Nat) : Int) := by simp only [IntKind.wrap_u32]; omega
  rw [e0, e1, e2, e3, bits_or32 8 (by omega) (by omega) h1, bits_or32 16 (by omega) (by omega) h2, bits_or32 24 (by omega) (by omega) h3]
  unfold bt4; omega
theorem told_add (b0 b1 b2 b3 : UInt8) : IntKind.u32.wrap (IntKind.u32.wrap (IntKind.u32.wrap (IntKind.u32.wrap (b0.toNat : Int) + IntKind.u32.wrap (IntKind.u32.wrap (b1.toNat : Int) * 256)) + IntKind.u32.wrap (IntKind.u32.wrap (b2.toNat : Int) * 65536)) + IntKind.u32.wrap (IntKind.u32.wrap (b3.toNat : Int) * 16777216)) = ((bt4 b0 b1 b2 b3 : Nat) : Int) := by
  have h0 : b0.toNat < 256 := b0.toNat_lt
  have h1 : b1.toNat < 256 := b1.toNat_lt
  have h2 : b2.toNat < 256 := b2.toNat_lt
  have h3 : b3.toNat < 256 := b3.toNat_lt
  simp only [IntKind.wrap_u32]
  unfold bt4; omega
set_option maxRecDepth 100000 in
theorem told_any (A : Option Addr) (c : Nat) (l : List UInt8) (w : World) (hp : Rd w A l) (hl : 4 ≤ l.length) (hm : l.length ≤ 1099511000000) :
    Calls Try.prog 32 #[.slice A l.length c] w fun e w' => e = .returned (.int .u32 (told4 l : Nat)) ∧ Below w.heap.size w w' := by
  obtain ⟨ad, rfl, hb, c0, c1, c2, c3⟩ := hp.four hl
  have HT : told4 l = bt4 (l.getD 0 0) (l.getD 1 0) (l.getD 2 0) (l.getD 3 0) := rfl
  generalize l.getD 0 0 = b0 at *
  generalize l.getD 1 0 = b1 at *
  generalize l.getD 2 0 = b2 at *
  generalize l.getD 3 0 = b3 at *
  rw [HT]
  have HC := Lib.hid (And.intro hb (And.intro c0 (And.intro c1 (And.intro c2 c3))))
  have HE := Lib.hid (told_or b0 b1 b2 b3)
  have i0 : (0 : Int) < (l.length : Int) := by omega
  have i1 : (1 : Int) < (l.length : Int) := by omega
  have i2 : (2 : Int) < (l.length : Int) := by omega
  have i3 : (3 : Int) < (l.length : Int) := by omega
  have n0 : 0 < l.length := by omega
  have n1 : 1 < l.length := by omega
  have n2 : 2 < l.length := by omega
  have n3 : 3 < l.length := by omega
  clear hp hb c0 c1 c2 c3 HT
  go_enter Try.func32, Try.ntmps32
  go_wp2_with fail
  refine wp_region_here 22 [(0, false), (1, false), (2, false), (3, false), (4, false), (5, false), (6, false), (7, false), (8, false), (9, false), (10, false), (11, false), (12, false), (13, false), (14, false), (15, false), (16, false), (17, false), (18, false), (19, false), (20, false), (21, false)] (fun _ => .cells #[] 0) (by kernel_rfl) (by kernel_rfl) ?_
  repeat (first | (refine wpP_q rfl rfl rfl ?_; apply Exists.intro; refine ⟨fun w' hw' => ?_, fun K hK => ?_⟩; (focus ((have q0 := (hw'.cell (p := ad) HC.out.1).trans HC.out.2.1; have q1 := (hw'.cell (p := ⟨ad.block, ad.off + 1, none⟩) HC.out.1).trans HC.out.2.2.1; have q2 := (hw'.cell (p := ⟨ad.block, ad.off + 2, none⟩) HC.out.1).trans HC.out.2.2.2.1; have q3 := (hw'.cell (p := ⟨ad.block, ad.off + 3, none⟩) HC.out.1).trans HC.out.2.2.2.2); go_simp; first | exact quiet_value | fail)); simp only [Act.put, List.setIfInBounds_toArray, List.set_cons_zero, List.set_cons_succ]; refine hK.out _ ?_; clear hK K) | (refine wpP_skip rfl rfl rfl (fun K hK => ?_); simp only [Act.put, List.setIfInBounds_toArray, List.set_cons_zero, List.set_cons_succ]; refine hK.out _ ?_; clear hK K))
  refine wpP_nil ?_
  intro w1 HB1
  have HB := Lib.hid HB1
  clear HB1
  simp only [List.drop_succ_cons, List.drop_zero]
  go_wp2_with fail
  rw [HE.out]
  go_ret
  exact ⟨rfl, HB.out⟩
set_option maxRecDepth 100000 in
theorem rtold_any (A : Option Addr) (c : Nat) (l : List UInt8) (w : World) (hp : Rd w A l) (hl : 4 ≤ l.length) (hm : l.length ≤ 1099511000000) :
    Calls Try.prog 34 #[.slice A l.length c] w fun e w' => e = .returned (.int .u32 (told4 l : Nat)) ∧ Below w.heap.size w w' := by
  obtain ⟨ad, rfl, hb, c0, c1, c2, c3⟩ := hp.four hl
  have HT : told4 l = bt4 (l.getD 0 0) (l.getD 1 0) (l.getD 2 0) (l.getD 3 0) := rfl
  generalize l.getD 0 0 = b0 at *
  generalize l.getD 1 0 = b1 at *
  generalize l.getD 2 0 = b2 at *
  generalize l.getD 3 0 = b3 at *
  rw [HT]
  have HC := Lib.hid (And.intro hb (And.intro c0 (And.intro c1 (And.intro c2 c3))))
  have HE := Lib.hid (told_add b0 b1 b2 b3)
  have i0 : (0 : Int) < (l.length : Int) := by omega
  have i1 : (1 : Int) < (l.length : Int) := by omega
  have i2 : (2 : Int) < (l.length : Int) := by omega
  have i3 : (3 : Int) < (l.length : Int) := by omega
  have n0 : 0 < l.length := by omega
  have n1 : 1 < l.length := by omega
  have n2 : 2 < l.length := by omega
  have n3 : 3 < l.length := by omega
  clear hp hb c0 c1 c2 c3 HT
  go_enter Try.func34, Try.ntmps34
  go_wp2_with fail
  refine wp_region_here 22 [(0, false), (1, false), (2, false), (3, false), (4, false), (5, false), (6, false), (7, false), (8, false), (9, false), (10, false), (11, false), (12, false), (13, false), (14, false), (15, false), (16, false), (17, false), (18, false), (19, false), (20, false), (21, false)] (fun _ => .cells #[] 0) (by kernel_rfl) (by kernel_rfl) ?_
  repeat (first | (refine wpP_q rfl rfl rfl ?_; apply Exists.intro; refine ⟨fun w' hw' => ?_, fun K hK => ?_⟩; (focus ((have q0 := (hw'.cell (p := ad) HC.out.1).trans HC.out.2.1; have q1 := (hw'.cell (p := ⟨ad.block, ad.off + 1, none⟩) HC.out.1).trans HC.out.2.2.1; have q2 := (hw'.cell (p := ⟨ad.block, ad.off + 2, none⟩) HC.out.1).trans HC.out.2.2.2.1; have q3 := (hw'.cell (p := ⟨ad.block, ad.off + 3, none⟩) HC.out.1).trans HC.out.2.2.2.2); go_simp; first | exact quiet_value | fail)); simp only [Act.put, List.setIfInBounds_toArray, List.set_cons_zero, List.set_cons_succ]; refine hK.out _ ?_; clear hK K) | (refine wpP_skip rfl rfl rfl (fun K hK => ?_); simp only [Act.put, List.setIfInBounds_toArray, List.set_cons_zero, List.set_cons_succ]; refine hK.out _ ?_; clear hK K))
  refine wpP_nil ?_
  intro w1 HB1
  have HB := Lib.hid HB1
  clear HB1
  simp only [List.drop_succ_cons, List.drop_zero]
  go_wp2_with fail
  rw [HE.out]
  go_ret
  exact ⟨rfl, HB.out⟩
end Go.Proofs.Ytboldddmknpchaa
