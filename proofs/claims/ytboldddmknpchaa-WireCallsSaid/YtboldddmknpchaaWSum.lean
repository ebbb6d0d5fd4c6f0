/- The reference's Sum; Text, the program's and the reference's: contracts. -/
import Derived.Test.YtboldddmknpchaaWTxt
namespace Go.Proofs.Ytboldddmknpchaa
open Go.RowKit
set_option maxRecDepth 1000000 in
set_option maxHeartbeats 1000000 in
theorem rsum_any (A : Option Addr) (c : Nat) (ps : List Pc) (w : World) (hr : RdP w A ps) (hn : ps.length ≤ 1099511627776) (hl : ∀ p ∈ ps, p.2.2.length ≤ 1099511627776) :
    Calls Try.prog 20 #[.slice A ps.length c] w fun e w' => e = .returned (.int .u32 (crc (allB ps) : Nat)) ∧ Below w.heap.size w w' := by
  have HR := Lib.hid hr
  have HL := Lib.hid hl
  clear hr hl
  go_enter Try.func20, Try.ntmps20
  go_wp2_with fail
  go_loop [3, 4] (fun x i => ∃ k : Nat, k ≤ ps.length ∧ i = .int .i64 k ∧ x = .int .u32 (crcF 4294967295 (allB (ps.take k)) : Nat)) (fun _ i => ps.length - (intOf i).toNat)
  case atStart => exact ⟨0, Nat.zero_le _, rfl, rfl⟩
  case round =>
    obtain ⟨k, hk, rfl, rfl⟩ := hrel
    by_cases hlt : k < ps.length
    · have e1 : (k : Int) < (ps.length : Int) := by omega
      obtain ⟨ad, rfl, _, hc⟩ := HR.out.at_ hlt
      have HK := Lib.hid (HR.out.2 _ (List.getElem_mem hlt))
      have hll := HL.out _ (List.getElem_mem hlt)
      have HE := Lib.hid (allB_take ps k hlt)
      generalize ps[k] = p at *
      obtain ⟨pa, pc, pl⟩ := p
      dsimp only at hc hll HK HE
      go_wp2_with fail
      go_loop [3, 5] (fun x i => ∃ j : Nat, j ≤ pl.length ∧ i = .int .i64 j ∧ x = .int .u32 (crcF 4294967295 (allB (ps.take k) ++ pl.take j) : Nat)) (fun _ i => pl.length - (intOf i).toNat)
      case atStart => exact ⟨0, Nat.zero_le _, rfl, by simp⟩
      case round =>
        obtain ⟨j, hj, rfl, rfl⟩ := hrel
        by_cases hlj : j < pl.length
        · have e2 : (j : Int) < (pl.length : Int) := by omega
          obtain ⟨ad2, rfl, _, hc2⟩ := HK.out.at_ hlj
          obtain ⟨x, hx⟩ : ∃ x, crcF 4294967295 (allB (ps.take k) ++ pl.take j) = x := ⟨_, rfl⟩
          have hxl : x < 4294967296 := by rw [← hx]; exact crcF_lt (by omega) _
          have hnx : crcF 4294967295 (allB (ps.take k) ++ pl.take (j + 1)) = stn 8 (x ^^^ pl[j].toNat) := by
            rw [crcF_append, crcF_take _ _ hlj, ← crcF_append, hx]
          rw [hx]
          have HNX := Lib.hid hnx
          clear hx hnx
          generalize pl[j] = cb at *
          have hcb := cb.toNat_lt
          have u2 : bits BinOp.xor IntKind.u32 (x : Int) (cb.toNat : Int) = ((x ^^^ cb.toNat : Nat) : Int) := bits_xor32 hxl (by omega)
          have hyl : x ^^^ cb.toNat < 4294967296 := xor_lt32 hxl (by omega)
          generalize x ^^^ cb.toNat = y at *
          have ew : IntKind.u32.wrap (cb.toNat : Int) = (cb.toNat : Int) := by rw [IntKind.wrap_u32]; omega
          go_wp2_with fail
          clear u2 ew
          go_loop [3, 6] (fun q i => ∃ m : Nat, m ≤ 8 ∧ i = .int .i64 m ∧ q = .int .u32 (stn m y : Nat)) (fun _ i => 8 - (intOf i).toNat)
          case atStart => exact ⟨0, by omega, rfl, rfl⟩
          case round =>
            obtain ⟨m, hm, rfl, rfl⟩ := hrel
            obtain ⟨z, hz⟩ : ∃ z, stn m y = z := ⟨_, rfl⟩
            have hzl : z < 4294967296 := by rw [← hz]; exact stn_lt hyl m
            by_cases hm8 : m < 8
            · have e3 : (m : Int) < 8 := by omega
              have hs : stn (m + 1) y = st z := by rw [← hz]; rfl
              rw [hz]
              have HS := Lib.hid hs
              clear hz hs
              by_cases ho : z % 2 = 1
              · have e4 : ((z : Int) % 2 == 1) = true := by simp; omega
                have H2 := Lib.hid (st_odd hzl ho)
                clear ho
                go_wp2_with fail
                go_round
                case rel => exact ⟨m + 1, by omega, by go_num, by rw [H2.out, HS.out]⟩
                case measure => simp [intOf]; omega
              · have e4 : ((z : Int) % 2 == 1) = false := by simp; omega
                have H2 := Lib.hid (st_even ho)
                clear ho
                go_wp2_with fail
                go_round
                case rel => exact ⟨m + 1, by omega, by go_num, by rw [H2.out, HS.out]⟩
                case measure => simp [intOf]; omega
            · obtain rfl : m = 8 := by omega
              go_wp2_with fail
              go_round
              case rel => exact ⟨j + 1, by omega, by go_num, by rw [HNX.out]⟩
              case measure => simp [intOf]; omega
        · obtain rfl : j = pl.length := by omega
          rw [List.take_length]
          go_wp2_with fail
          go_round
          case rel => exact ⟨k + 1, by omega, by go_num, by rw [HE.out]⟩
          case measure => simp [intOf]; omega
    · obtain rfl : k = ps.length := by omega
      rw [List.take_length]
      obtain ⟨x, hx⟩ : ∃ x, crcF 4294967295 (allB ps) = x := ⟨_, rfl⟩
      have hxl : x < 4294967296 := by rw [← hx]; exact crcF_lt (by omega) _
      have HX : Hid (crc (allB ps) = 4294967295 - x) := Lib.hid (by unfold crc; rw [hx])
      rw [hx]
      clear hx
      have hs : IntKind.u32.signed = false := rfl
      have hx2 := not32 hxl
      go_wp2_with fail
      go_ret
      exact ⟨by rw [HX.out]; rfl, Below.refl _ _⟩
end Go.Proofs.Ytboldddmknpchaa
