/- A reader of bytes that was made: contracts of its methods. -/
import Derived.Test.YtjcbikkihijkiaaRdL
import Derived.Test.YtjcbikkihijkiaaOnl
import Derived.WalkKit
import Derived.WalkSpells
import Derived.WalkLawsBesides
import Derived.Lib.Hide
import Derived.IntWalk
namespace Go.Proofs.Ytjcbikkihijkiaa
open Go.RowKit
theorem ret3 {a a' b b' c c' : Value} (h1 : a = a') (h2 : b = b') (h3 : c = c') : Ending.returned (.tuple #[a, b, c]) = .returned (.tuple #[a', b', c']) := by rw [h1, h2, h3]
theorem leV_drop (l : List UInt8) (k : Nat) (h : k < l.length) : leV (l.drop k) = l[k].toNat + 256 * leV (l.drop (k + 1)) := by
  rw [List.drop_eq_getElem_cons h]; rfl
theorem leV_drop_lt (l : List UInt8) (k : Nat) (hk : 2 ≤ k) (hl : l.length ≤ 9) : leV (l.drop k) < 72057594037927936 := by
  have h := leV_lt (l.drop k)
  have hl : (l.drop k).length ≤ 7 := by rw [List.length_drop]; omega
  have := Nat.pow_le_pow_right (n := 256) (by omega) hl
  simp only [show (256 : Nat) ^ 7 = 72057594037927936 from rfl] at this
  omega
theorem bits_or64 {a b : Nat} (ha : a < 72057594037927936) (hb : b < 256) : bits BinOp.or IntKind.u64 ((a * 256 : Nat) : Int) (b : Int) = ((a * 256 + b : Nat) : Int) := by
  show IntKind.u64.wrap ((BitVec.ofInt 64 _ ||| BitVec.ofInt 64 _).toNat : Int) = _
  have e := @Nat.two_pow_add_eq_or_of_lt 8 b hb a
  rw [IntKind.wrap_u64, BitVec.toNat_or, BitVec.toNat_ofInt, BitVec.toNat_ofInt]
  have e1 : (((a * 256 : Nat) : Int) % ((2 ^ 64 : Nat) : Int)).toNat = 2 ^ 8 * a := by omega
  have e2 : ((b : Int) % ((2 ^ 64 : Nat) : Int)).toNat = b := by omega
  rw [e1, e2, ← e]; omega
theorem or_step {a b : Nat} (ha : a < 72057594037927936) (hb : b < 256) : bits BinOp.or IntKind.u64 (IntKind.u64.wrap ((a : Int) * 256)) (IntKind.u64.wrap (b : Int)) = ((a * 256 + b : Nat) : Int) := by
  rw [← bits_or64 ha hb]
  congr 1 <;> (rw [IntKind.wrap_u64]; omega)
/-- The number at the beginning of bytes. -/
def NumP (l : List UInt8) (w : World) (e : Ending) (w' : World) : Prop := e = .returned (.tuple #[.int .u64 ((rdNum l).1 : Nat), .int .i64 ((rdNum l).2.1 : Nat), .int .i64 (rdNum l).2.2]) ∧ w = w'
section
variable {l : List UInt8} (h0 : 0 < l.length)
theorem rdNum_big (h : 8 < l[0].toNat) : rdNum l = (0, 0, 4) := by
  cases l with
  | nil => simp at h0
  | cons b t => simp only [List.getElem_cons_zero] at h; simp [rdNum, h]
theorem rdNum_more (h8 : ¬ 8 < l[0].toNat) (h : l.length < 1 + l[0].toNat) : rdNum l = (0, 0, 5) := by
  cases l with
  | nil => simp at h0
  | cons b t =>
    simp only [List.getElem_cons_zero, List.length_cons] at h h8
    simp only [rdNum]
    rw [if_neg h8, if_pos (by omega)]
theorem rdNum_zero (h8 : ¬ 8 < l[0].toNat) (h : ¬ l.length < 1 + l[0].toNat) (hq : 0 < l[0].toNat) (hz : l[l[0].toNat].toNat = 0) : rdNum l = (0, 0, 4) := by
  cases l with
  | nil => simp at h0
  | cons b t =>
    simp only [List.getElem_cons_zero, List.length_cons] at h h8 hq hz
    simp only [rdNum]
    rw [if_neg h8, if_neg (by omega), if_pos]
    refine ⟨hq, ?_⟩
    obtain ⟨q, hq'⟩ : ∃ q, b.toNat = q + 1 := ⟨b.toNat - 1, by omega⟩
    simp only [hq', List.getElem_cons_succ] at hz
    rw [hq', Nat.add_sub_cancel, List.getD_eq_getElem?_getD, List.getElem?_eq_getElem (by omega)]
    exact UInt8.toNat_inj.1 hz
theorem rdNum_ok (h8 : ¬ 8 < l[0].toNat) (h : ¬ l.length < 1 + l[0].toNat) (hz : 0 < l[0].toNat → l[l[0].toNat].toNat ≠ 0) : rdNum l = (leV ((l.take (1 + l[0].toNat)).drop 1), 1 + l[0].toNat, 0) := by
  cases l with
  | nil => simp at h0
  | cons b t =>
    simp only [List.getElem_cons_zero, List.length_cons] at h h8 hz ⊢
    simp only [rdNum]
    rw [if_neg h8, if_neg (by omega), if_neg]
    · rw [Nat.add_comm, List.take_succ_cons, List.drop_succ_cons, List.drop_zero]
    · rintro ⟨hq, hg⟩
      apply hz hq
      obtain ⟨q, hq'⟩ : ∃ q, b.toNat = q + 1 := ⟨b.toNat - 1, by omega⟩
      simp only [hq', List.getElem_cons_succ]
      rw [hq', Nat.add_sub_cancel, List.getD_eq_getElem?_getD, List.getElem?_eq_getElem (by omega)] at hg
      simp only [Option.getD_some] at hg
      rw [hg]; rfl
end
set_option maxRecDepth 100000 in
theorem wnum_any (A : Option Addr) (c : Nat) (l : List UInt8) (w : World) (hp : Rd w A l) (hl : l.length ≤ 1099511000000) :
    Calls Try.prog 64 #[.slice A l.length c] w (NumP l w) := by
  unfold NumP
  rcases Nat.eq_zero_or_pos l.length with h0 | h0
  · obtain rfl := List.eq_nil_of_length_eq_zero h0
    go_enter Try.func64, Try.ntmps64
    go_wp2_with fail
    go_ret3
    exact ⟨rfl, rfl⟩
  obtain ⟨ad, rfl, hb, c0⟩ := hp.at_ h0
  rw [add_zero_] at c0
  have e0 : (((l.length : Nat) : Int) == 0) = false := beq_eq_false_iff_ne.2 (by omega)
  have i0 : (0 : Int) < (l.length : Int) := by omega
  by_cases h8 : 8 < l[0].toNat
  · rw [rdNum_big h0 h8]
    have e1 : (8 : Int) < (l[0].toNat : Int) := by omega
    generalize l[0] = b at *
    clear h8
    go_enter Try.func64, Try.ntmps64
    go_wp2_with fail
    go_ret3
    exact ⟨rfl, rfl⟩
  have e1 : ¬ (8 : Int) < (l[0].toNat : Int) := by omega
  by_cases hm : l.length < 1 + l[0].toNat
  · rw [rdNum_more h0 h8 hm]
    have e2 : (l.length : Int) < 1 + (l[0].toNat : Int) := by omega
    generalize l[0] = b at *
    clear h8 hm
    go_enter Try.func64, Try.ntmps64
    go_wp2_with fail
    go_ret3
    exact ⟨rfl, rfl⟩
  have e2 : ¬ (l.length : Int) < 1 + (l[0].toNat : Int) := by omega
  have OK := Lib.hid (rdNum_ok h0 h8 hm)
  have ZE := Lib.hid (rdNum_zero h0 h8 hm)
  obtain ⟨q, hq⟩ : ∃ q, l[0].toNat = q := ⟨_, rfl⟩
  rw [hq] at e1 e2 c0 h8 hm
  have HQ := Lib.hid hq
  clear hq
  have hq8 : q ≤ 8 := by omega
  have hql : q < l.length := by omega
  have HP := Lib.hid hp
  clear hp h8 hm
  go_enter Try.func64, Try.ntmps64
  go_wp2_with fail
  go_loop [2, 5] (fun x i => ∃ k : Nat, k ≤ q ∧ i = .int .i64 k ∧ x = .int .u64 (leV ((l.take (1 + q)).drop (k + 1)) : Nat)) (fun _ i => (intOf i).toNat)
  case atStart => exact ⟨q, Nat.le_refl _, by go_num, by rw [List.drop_eq_nil_of_le (by rw [List.length_take]; omega)]; rfl⟩
  case round =>
    obtain ⟨k, hk, rfl, rfl⟩ := hrel
    by_cases hlt : 0 < k
    · have e3 : (0 : Int) < (k : Int) := by omega
      obtain ⟨ad', hh, _, ck⟩ := HP.out.at_ (k := k) (by omega)
      cases hh
      have i1 : (k : Int) < (l.length : Int) := by omega
      generalize hx : leV ((l.take (1 + q)).drop (k + 1)) = x at *
      generalize hy : l[k].toNat = y at *
      have HX := Lib.hid hx
      have HY := Lib.hid hy
      clear hx hy
      go_wp2_with fail
      go_round
      case rel =>
        refine ⟨k - 1, by omega, by congr 1; omega, ?_⟩
        have hlen : (l.take (1 + q)).length = 1 + q := by rw [List.length_take]; omega
        have hb1 := leV_drop_lt (l.take (1 + q)) (k + 1) (by omega) (by omega)
        have hb2 : y < 256 := by rw [← HY.out]; exact l[k].toNat_lt
        have hd := leV_drop (l.take (1 + q)) k (by omega)
        rw [HX.out] at hb1 hd
        rw [List.getElem_take, HY.out] at hd
        rw [show k - 1 + 1 = k by omega, hd, or_step hb1 hb2]
        congr 2; omega
      case measure => simp [intOf]; omega
    · obtain rfl : k = 0 := by omega
      have e3 : ¬ (0 : Int) < ((0 : Nat) : Int) := by omega
      by_cases hq0 : 0 < q
      · have i3 : (1 : Int) < 1 + (q : Int) := by omega
        obtain ⟨ad', hh, _, ck⟩ := HP.out.at_ (k := q) (by omega)
        cases hh
        have i4 : (q : Int) < (l.length : Int) := by omega
        by_cases hz : l[q].toNat = 0
        · have HN := Lib.hid (ZE.out (by rw [HQ.out]; exact hq0) (by simpa only [HQ.out] using hz))
          rw [hz] at ck
          clear hz
          go_wp2_with fail
          go_ret3
          exact ⟨by rw [HN.out]; first | rfl | (simp; done), rfl⟩
        · have HN := Lib.hid (OK.out (fun _ => by simpa only [HQ.out] using hz))
          rw [HQ.out] at HN
          have e4 : ((l[q].toNat : Int) == 0) = false := beq_eq_false_iff_ne.2 (by omega)
          generalize l[q].toNat = y at *
          clear hz
          go_wp2_with fail
          go_ret3
          exact ⟨by rw [HN.out]; first | rfl | (simp; done), rfl⟩
      · obtain rfl : q = 0 := by omega
        have i3 : ¬ (1 : Int) < 1 + ((0 : Nat) : Int) := by omega
        have HN := Lib.hid (OK.out (fun h => by rw [HQ.out] at h; omega))
        rw [HQ.out] at HN
        go_wp2_with fail
        go_ret3
        exact ⟨by rw [HN.out]; first | rfl | (simp; done), rfl⟩
end Go.Proofs.Ytjcbikkihijkiaa
