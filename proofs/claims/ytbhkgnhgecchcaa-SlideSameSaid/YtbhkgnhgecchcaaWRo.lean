/- The reference's functions that put bytes: what else they leave as it was. -/
import Derived.Test.YtbhkgnhgecchcaaWRef
import Derived.Test.YtbhkgnhgecchcaaOnl
namespace Go.Proofs.Ytbhkgnhgecchcaa
open Go.RowKit
theorem only_grown {w w' : World} {row : Option Nat} (h : w.grownBy w' row) : Only (fun k => row = some k) w w' := ⟨h.os, h.tape, h.output, h.size, fun k hk hn => h.block k hk (fun e => hn e.symm)⟩
/-- A call that appends onto the row v0. -/
def MadeO (v0 : Value) (base : Nat) (w : World) (l : List UInt8) (e : Ending) (w' : World) : Prop := ∃ v, e = .returned v ∧ OwnB w' base v l ∧ Only (fun k => v0.ownBlock = some k) w w' ∧ ∀ k, v.ownBlock = some k → v0.ownBlock = some k ∨ w.heap.size ≤ k
theorem MadeO.below {v0 : Value} {base : Nat} {w : World} {l m : List UInt8} {e : Ending} {w' : World} (h : MadeO v0 base w l e w') (h0 : OwnB w base v0 m) (hb : base ≤ w.heap.size) : MadeB base w l e w' := by
  obtain ⟨v, he, ho, h1, _⟩ := h
  exact ⟨v, he, ho, h1.below (fun k hk => (h0.lt k hk).1) hb⟩
set_option maxRecDepth 100000 in
theorem onumber_any (base : Nat) (v : Value) (l : List UInt8) (x : Nat) (hx : N64 x) (w : World) (ho : OwnB w base v l) (hbase : base ≤ w.heap.size) (hl : l.length ≤ 1099511000000) :
    Calls Try.prog 38 #[v, .int .u64 x] w (MadeO v base w (l ++ numB x)) := by
  have HX := Lib.hid (leB_len 8 x hx)
  have HV := Lib.hid ho
  clear hx ho
  go_enter Try.func38, Try.ntmps38
  go_wp2_with fail
  go_loopw [1, 5] (fun y u wr => ∃ (n : Nat) (done : List UInt8), n ≤ x ∧ y = .int .u64 n ∧ Hid (done ++ leB n = leB x) ∧ Hid (OwnB wr w.heap.size u done) ∧ Hid (Below w.heap.size w wr)) (fun y _ _ => (intOf y).toNat)
  case atStart => exact ⟨x, [], Nat.le_refl _, rfl, Lib.hid rfl, Lib.hid OwnB.nil_, Lib.hid (Below.refl _ _)⟩
  case round =>
    obtain ⟨n, done, hn, rfl, HD, HO, HB⟩ := hrel
    by_cases h0 : 0 < n
    · have e0 : (0 : Int) < (n : Int) := by omega
      have hu := u8_of n
      obtain ⟨b, hb⟩ : ∃ b, UInt8.ofNat n = b := ⟨_, rfl⟩
      rw [hb] at hu
      have HU := Lib.hid hb
      clear hb
      have HA := Lib.hid ((Below.refl wr.heap.size wr).alloc (Nat.le_refl _) (.cells #[.int .u8 (b.toNat : Int)] 5))
      go_wp2_with (at_builtin; go_loud (refine wpL_ap rfl _ _ rfl w.heap.size _ done rfl (HO.out.below HA.out) _ 1 1 [b] rfl rfl (Rd.new _ [b]) ?o3 (HB.out.alloc HB.out.size _).size ?o5))
      case o3 =>
        have h1 := congrArg List.length HD.out
        have h2 := HX.out
        simp only [List.length_append, List.length_cons, List.length_nil] at *
        omega
      case o5 =>
        intro v' w' HO' hg _
        go_wp2_with fail
        go_roundw
        case rel =>
          have hb' : Below w.heap.size w w' := own_block_below (HB.out.alloc HB.out.size _) (HO.out.below HA.out) hg
          refine ⟨n / 256, done ++ [b], by omega, by simp, Lib.hid ?_, Lib.hid HO', Lib.hid hb'⟩
          rw [List.append_assoc, ← HD.out, leB_pos h0, HU.out]
          rfl
        case measure => simp [intOf]; omega
    · have e0 : ¬ ((0 : Int) < (n : Int)) := by omega
      obtain rfl : n = 0 := by omega
      have h := HD.out
      rw [leB_zero, List.append_nil] at h
      rw [h] at HO
      obtain ⟨A5, c5, rfl, _, _, hr5⟩ := HO.out.form
      have h8 := HX.out
      have hu := u8_of (leB x).length
      obtain ⟨b, hb⟩ : ∃ b, UInt8.ofNat (leB x).length = b := ⟨_, rfl⟩
      rw [hb] at hu
      have HU := Lib.hid hb
      have HR5 := Lib.hid hr5
      have HA := Lib.hid ((Below.refl wr.heap.size wr).alloc (Nat.le_refl _) (.cells #[.int .u8 (b.toNat : Int)] 5))
      have HV2 := Lib.hid ((HV.out.below HB.out).below HA.out)
      have HS := Lib.hid (Nat.le_trans hbase (Nat.le_trans HB.out.size HA.out.size))
      clear h hb hr5 HD
      go_wp2_with (at_builtin; go_loud (refine wpL_ap rfl (.tmp 15) (.tmp 19) rfl base _ l rfl HV2.out _ 1 1 [b] rfl rfl (Rd.new _ [b]) ?o3 HS.out ?o5))
      case o3 => first | omega | (simp; omega)
      case o5 =>
        intro v1 w1 HO1 hg1 hv1
        have HO1 := Lib.hid HO1
        have HR6 : Hid (Rd w1 A5 (leB x)) := Lib.hid ((HR5.out.below HA.out).far hg1 (fun ad e h => by
          have h1 := HO.out.block ad e
          have h2 := HV.out.lt ad.block h.symm
          omega))
        have HO1' : Hid (Only (fun k => v.ownBlock = some k) w w1) := Lib.hid (((Only.of_below HB.out).then (Only.of_below HA.out (S := fun _ => False)) (fun _ _ h => h.elim)).then (only_grown hg1) (fun _ _ h => h))
        have HV1 : Hid (v1.ownBlock = v.ownBlock ∨ ∀ k, v1.ownBlock = some k → w.heap.size ≤ k) := Lib.hid (hv1.imp id (fun e k hk => by rw [e] at hk; injection hk with hk; have h1 := HB.out.size; have h2 := HA.out.size; simp at h2 hk; omega))
        have HS1 := Lib.hid (Nat.le_trans hbase HO1'.out.size)
        clear hg1 hv1
        go_wp2_with (at_builtin; go_loud (refine wpL_ap rfl (.tmp 20) (.tmp 21) rfl base _ (l ++ [b]) rfl HO1.out A5 _ c5 (leB x) rfl rfl HR6.out ?o3 HS1.out ?o5))
        case o3 => first | omega | (simp; omega)
        case o5 =>
          intro v2 w2 HO2 hg2 hv2
          have HB2 := Lib.hid (HO1'.out.then (only_grown hg2) (fun i hi h => by
            rcases HV1.out with e | e
            · rw [← e]; exact h
            · have := e i h; omega))
          have HO2 : Hid (OwnB w2 base v2 (l ++ numB x)) := by
            unfold numB
            rw [HU.out]
            exact HO2
          have HV3 : Hid (∀ k, v2.ownBlock = some k → v.ownBlock = some k ∨ w.heap.size ≤ k) := Lib.hid (fun k hk => by
            rcases hv2 with e | e
            · rw [e] at hk
              rcases HV1.out with e1 | e1
              · left; rw [← e1]; exact hk
              · right; exact e1 k hk
            · right
              rw [e] at hk; injection hk with hk
              have := HO1'.out.size; omega)
          clear hg2 hv2
          go_wp2_with fail
          go_ret
          exact ⟨_, rfl, HO2.out, HB2.out, HV3.out⟩

set_option maxRecDepth 100000 in
theorem osigned_any (base : Nat) (v : Value) (l : List UInt8) (x : Int) (hx : In64 x) (w : World) (ho : OwnB w base v l) (hbase : base ≤ w.heap.size) (hl : l.length ≤ 1099511000000) :
    Calls Try.prog 39 #[v, .int .i64 x] w (MadeO v base w (l ++ numB (zz x))) := by
  have CN := Lib.hid (onumber_any base v l (zz x) (zz_64 hx.1 hx.2) w ho hbase hl)
  have HX := Lib.hid hx
  clear hx ho
  by_cases h0 : x < 0
  · have HZ := Lib.hid (rzz_neg HX.out h0)
    have e0 : decide (0 ≤ x) = false := by simp; omega
    go_enter Try.func39, Try.ntmps39
    go_wp2_with fail
    rw [HZ.out]
    refine CN.out.mono ?_
    rintro e w2 ⟨v2, rfl, h1, h2, h3⟩
    have H1 := Lib.hid h1
    have H2 := Lib.hid h2
    have H3 := Lib.hid h3
    clear h1 h2 h3
    go_wp2_with fail
    go_ret
    exact ⟨_, rfl, H1.out, H2.out, H3.out⟩
  · have HZ := Lib.hid (rzz_pos HX.out h0)
    have e0 : decide (0 ≤ x) = true := by simp; omega
    go_enter Try.func39, Try.ntmps39
    go_wp2_with fail
    rw [HZ.out]
    refine CN.out.mono ?_
    rintro e w2 ⟨v2, rfl, h1, h2, h3⟩
    have H1 := Lib.hid h1
    have H2 := Lib.hid h2
    have H3 := Lib.hid h3
    clear h1 h2 h3
    go_wp2_with fail
    go_ret
    exact ⟨_, rfl, H1.out, H2.out, H3.out⟩
end Go.Proofs.Ytbhkgnhgecchcaa
