/- An item's bytes. -/
import Derived.Test.YtjnkcgegmffncaaQuB
namespace Go.Proofs.Ytjnkcgegmffncaa
open Go.RowKit
theorem putPass_any {A : Option Addr} {c nl : Nat} {l : List UInt8} {k t n tm bt : Int} {m : ByteArray} {la ca : Option Addr} {ln lc cn cc : Nat} {w : World} (hn : l.length = nl) (hp : Rd w A l) (hl : nl ≤ 500000000) (htm : 0 ≤ tm ∧ tm ≤ 1099511627776) :
    Calls Try.prog 44 #[.slice A nl c, .agg #[.int .i64 k, .string m, .slice la ln lc, .int .i64 t, .int .i64 n, .int .i64 tm, .int .i64 bt, .slice ca cn cc]] w (FreshB w (l ++ numB tm.toNat)) := by
  have HB := Lib.hid (below_alloc (Below.refl w.heap.size w) (.cells #[.int .i64 k, .string m, .slice la ln lc, .int .i64 t, .int .i64 n, .int .i64 tm, .int .i64 bt, .slice ca cn cc] 38))
  have HX := Lib.hid (newB w (.cells #[.int .i64 k, .string m, .slice la ln lc, .int .i64 t, .int .i64 n, .int .i64 tm, .int .i64 bt, .slice ca cn cc] 38))
  obtain ⟨tn, htn⟩ : ∃ tn : Nat, tm = (tn : Int) := ⟨tm.toNat, by omega⟩
  subst htn
  rw [Int.toNat_natCast]
  have hw1 : IntKind.u64.wrap (tn : Int) = (tn : Int) := by rw [IntKind.wrap_u64]; omega
  have CN := Lib.hid (number_n (c := c) hn (x := tn) (by unfold N64; omega) (hp.below HB.out) (by omega))
  have d5 := cellAt (o := 5) HX.out rfl
  clear hn hp hl htm
  go_enter Try.func44, Try.ntmps44
  go_wp2_with fail
  refine CN.out.mono ?_
  rintro e w2 ⟨v, rfl, ho, hb2⟩
  have HB2 := Lib.hid (HB.out.trans (hb2.mono HB.out.size))
  have HO2 := Lib.hid (ho.lower HB.out.size)
  obtain ⟨A2, c2, n2, rfl, _, _⟩ := ho.len_
  clear ho hb2
  go_wp2_with fail
  go_ret
  exact ⟨_, rfl, HO2.out, HB2.out⟩
theorem putBatch_any {A : Option Addr} {c nl : Nat} {l : List UInt8} {k t n tm bt : Int} {m : ByteArray} {la ca : Option Addr} {ln lc cn cc : Nat} {C : List Cg} {w : World} (hn : l.length = nl) (hp : Rd w A l) (hl : nl ≤ 500000000) (hb : 0 ≤ bt ∧ bt ≤ 1099511627776) (g : RdCg w ca cn C) (hE : ∀ x ∈ C, chgE (cgC x) = 0) (hS : ∀ x ∈ C, smallL x.1.2.2 ∧ In64 x.2.1) (hc : cn ≤ 40) :
    Calls Try.prog 45 #[.slice A nl c, .agg #[.int .i64 k, .string m, .slice la ln lc, .int .i64 t, .int .i64 n, .int .i64 tm, .int .i64 bt, .slice ca cn cc]] w (FreshB w (l ++ batB bt (C.map cgC))) := by
  have HB := Lib.hid (below_alloc (Below.refl w.heap.size w) (.cells #[.int .i64 k, .string m, .slice la ln lc, .int .i64 t, .int .i64 n, .int .i64 tm, .int .i64 bt, .slice ca cn cc] 38))
  have HX := Lib.hid (newB w (.cells #[.int .i64 k, .string m, .slice la ln lc, .int .i64 t, .int .i64 n, .int .i64 tm, .int .i64 bt, .slice ca cn cc] 38))
  have CN := Lib.hid (batch_any (c := c) (cc := cc) hn (hp.below HB.out) hl hb (g.below HB.out) hE hS hc)
  have d6 := cellAt (o := 6) HX.out rfl
  have d7 := cellAt (o := 7) HX.out rfl
  clear hn hp hl hb g hE hS
  go_enter Try.func45, Try.ntmps45
  go_wp2_with fail
  refine CN.out.mono ?_
  rintro e w2 ⟨v, rfl, ho, hb2⟩
  have HB2 := Lib.hid (HB.out.trans (hb2.mono HB.out.size))
  have HO2 := Lib.hid (ho.lower HB.out.size)
  obtain ⟨A2, c2, n2, rfl, _, _⟩ := ho.len_
  clear ho hb2
  go_wp2_with fail
  go_ret
  exact ⟨_, rfl, HO2.out, HB2.out⟩
theorem sb_size (m : ByteArray) (L : List Lb) (t n : Int) : (ByteArray.mk (smpB m L t n).toArray).size = (smpB m L t n).length := by simp [ByteArray.size]
set_option maxHeartbeats 4000000 in
theorem putSample_any {A : Option Addr} {c nl : Nat} {l : List UInt8} {k t n tm bt : Int} {m : ByteArray} {la ca : Option Addr} {ln lc cn cc : Nat} {L : List Lb} {w : World} (hn : l.length = nl) (hp : Rd w A l) (hl : nl ≤ 500000000) (hln : L.length = ln) (h : RdLb w la L) (hE : smpE m L t = 0) (hS : smallS m L) (hk : In64 n) :
    Calls Try.prog 43 #[.slice A nl c, .agg #[.int .i64 k, .string m, .slice la ln lc, .int .i64 t, .int .i64 n, .int .i64 tm, .int .i64 bt, .slice ca cn cc]] w (FreshB w (l ++ txtB ⟨(smpB m L t n).toArray⟩)) := by
  have HB := Lib.hid (below_alloc (Below.refl w.heap.size w) (.cells #[.int .i64 k, .string m, .slice la ln lc, .int .i64 t, .int .i64 n, .int .i64 tm, .int .i64 bt, .slice ca cn cc] 38))
  have HX := Lib.hid (newB w (.cells #[.int .i64 k, .string m, .slice la ln lc, .int .i64 t, .int .i64 n, .int .i64 tm, .int .i64 bt, .slice ca cn cc] 38))
  have CS := Lib.hid (sbytes_any (m := m) (c := lc) (t := t) (k := n) hln (h.below HB.out) hE hS hk)
  have ht := (smpE_ok hE).2
  have hlen := smpB_len (t := t) hS ⟨by omega, ht.2⟩ hk
  rw [← sb_size] at hlen
  obtain ⟨D, hD⟩ : ∃ D, smpB m L t n = D := ⟨_, rfl⟩
  rw [hD] at CS hlen ⊢
  obtain ⟨K, hK⟩ : ∃ K, ByteArray.mk D.toArray = K := ⟨_, rfl⟩
  rw [hK] at hlen ⊢
  have CT := Lib.hid (fun W (hb : Below w.heap.size w W) => text_n (c := c) (s := K) hn (hp.below hb) (by omega) (by omega))
  have HK := Lib.hid hK
  have d1 := cellAt (o := 1) HX.out rfl
  have d2 := cellAt (o := 2) HX.out rfl
  have d3 := cellAt (o := 3) HX.out rfl
  have d4 := cellAt (o := 4) HX.out rfl
  clear hn hp hl hln h hE hS hk hD hK ht
  go_enter Try.func43, Try.ntmps43
  go_wp2_with fail
  refine CS.out.mono ?_
  rintro e w2 ⟨v, rfl, ho2, hb2⟩
  obtain ⟨A2, c2, n2, rfl, hn2, hrd2⟩ := ho2.len_
  have HB2 := Lib.hid (HB.out.trans (hb2.mono HB.out.size))
  have kc := conv_n (c := c2) hn2 hrd2
  rw [HK.out] at kc
  clear ho2 hb2 hn2 hrd2 CS d1 d2 d3 d4
  go_wp2_with fail
  refine (CT.out _ HB2.out).mono ?_
  rintro e w3 ⟨v, rfl, ho3, hb3⟩
  have HB3 := Lib.hid (HB2.out.trans (hb3.mono HB2.out.size))
  have HO3 := Lib.hid (ho3.lower HB2.out.size)
  obtain ⟨A3, c3, n3, rfl, _, _⟩ := ho3.len_
  clear ho3 hb3 kc
  go_wp2_with fail
  go_ret
  exact ⟨_, rfl, HO3.out, HB3.out⟩
/-- An item as bytes. -/
def itmB (x : ItC) : List UInt8 := numB x.1.toNat ++ (if x.1 = 1 then txtB ⟨(smpB x.2.1 x.2.2.1 x.2.2.2.1 x.2.2.2.2.1).toArray⟩ else if x.1 = 2 then numB x.2.2.2.2.2.1.toNat else batB x.2.2.2.2.2.2.1 x.2.2.2.2.2.2.2)
/-- What may be, kind by kind. -/
theorem itE_kind {x : ItC} (h : itE x = 0) : (x.1 = 1 ∧ smpE x.2.1 x.2.2.1 x.2.2.2.1 = 0) ∨ (x.1 = 2 ∧ 0 ≤ x.2.2.2.2.2.1 ∧ x.2.2.2.2.2.1 ≤ 1099511627776) ∨ (x.1 = 3 ∧ (1 ≤ x.2.2.2.2.2.2.1 ∧ x.2.2.2.2.2.2.1 ≤ 1099511627776) ∧ ∀ c ∈ x.2.2.2.2.2.2.2, chgE c = 0) := by
  unfold itE at h
  split at h
  · rename_i h1
    simp only [Bool.and_eq_true] at h1
    have h2 := h1.2
    unfold kindOk at h2
    split at h2
    · rename_i h3; exact .inl ⟨h3, by simpa using h2⟩
    · split at h2
      · rename_i h3; exact .inr (.inl ⟨h3, by simpa using h2⟩)
      · split at h2
        · rename_i h3
          simp only [Bool.and_eq_true, decide_eq_true_eq, Bool.not_eq_true', List.any_eq_false] at h2
          refine .inr (.inr ⟨h3, h2.1, fun c hc => ?_⟩)
          have := h2.2 c hc
          unfold badC at this
          simpa using this
        · cases h2
  · cases h
theorem itmB_len {x : ItC} (h : itE x = 0) (hs : smI x) : (itmB x).length ≤ 750000 := by
  obtain ⟨h1, h2, h3, h4⟩ := hs
  have hk : (numB x.1.toNat).length ≤ 9 := numB_len (by unfold N64; rcases itE_kind h with ⟨e, _⟩ | ⟨e, _⟩ | ⟨e, _⟩ <;> rw [e] <;> decide)
  unfold itmB
  rw [List.length_append]
  rcases itE_kind h with ⟨e, g⟩ | ⟨e, g⟩ | ⟨e, g, _⟩
  · rw [if_pos e]
    have ht := (smpE_ok g).2
    have a1 := smpB_len (t := x.2.2.2.1) h1 ⟨by omega, ht.2⟩ h2
    rw [← sb_size] at a1
    have a2 := txtB_len (s := ByteArray.mk (smpB x.2.1 x.2.2.1 x.2.2.2.1 x.2.2.2.2.1).toArray) (by omega)
    omega
  · rw [if_neg (by omega), if_pos e]
    have := numB_len (n := x.2.2.2.2.2.1.toNat) (by unfold N64; omega)
    omega
  · rw [if_neg (by omega), if_neg (by omega)]
    have a1 := numB_len (n := x.2.2.2.2.2.2.1.toNat) (by unfold N64; omega)
    have a2 := numB_len (n := x.2.2.2.2.2.2.2.length) (by unfold N64; omega)
    have a3 := chsB_len x.2.2.2.2.2.2.2 h4
    unfold batB
    rw [List.length_append, List.length_append]
    omega
end Go.Proofs.Ytjnkcgegmffncaa
