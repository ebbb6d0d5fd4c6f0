/- A buffer's blocks: slices.BinarySearchFunc, at both kinds of elements. -/
import Derived.Test.YtfblmmnofhkkaaaBfM
namespace Go.Proofs.Ytfblmmnofhkkaaa
open Go.RowKit
abbrev bpv (p : Pt) : Value := .agg #[.int .i64 p.1, .int .i64 p.2, .bool false]
set_option maxRecDepth 100000 in
set_option maxHeartbeats 4000000 in
theorem bs_blk (g o n c : Nat) (el : Nat → Nat) (ks : List Int) (t : Int) (w : World) (hn : ks.length = n) (hN : n ≤ 1099511627776) (hg : g < w.heap.size) (hcell : ∀ i, i < n → w.cell? ⟨g, o + i, none⟩ = some (.pointer (some ⟨el i, 0, none⟩)))
    (hrise : ∀ i j, i ≤ j → j < n → ksAt ks i ≤ ksAt ks j) (hc : CmpOf 39 (Below w.heap.size w) (fun i => .pointer (some ⟨el i, 0, none⟩)) ks t) :
    Calls Try.prog 38 #[.slice (some ⟨g, o, none⟩) n c, .int .i64 t, .func (.func 39) #[] #[]] w fun e w' =>
      e = .returned (.tuple #[.int .i64 (cntLt t ks : Int), .bool (decide (cntLt t ks < n) && decide (ksAt ks (cntLt t ks) = t))]) ∧ Below w.heap.size w w' := by
  have HC := Lib.hid hcell
  have HM := Lib.hid hc
  have HR := Lib.hid hrise
  have HN := Lib.hid hn
  clear hcell hc hrise hn
  obtain ⟨cnt, hcnt⟩ : ∃ x, cntLt t ks = x := ⟨_, rfl⟩
  obtain ⟨fin, hfin⟩ : ∃ x, (decide (cntLt t ks < n) && decide (ksAt ks (cntLt t ks) = t)) = x := ⟨_, rfl⟩
  have CN := Lib.hid hcnt
  have FIN := Lib.hid hfin
  rw [hfin, hcnt]
  clear hcnt hfin
  go_enter Try.func38, Try.ntmps38
  go_wp2_with fail
  go_loopw [9, 10] (fun i j wr => ∃ lo hi : Nat, i = .int .i64 lo ∧ j = .int .i64 hi ∧ lo ≤ hi ∧ hi ≤ n ∧ Hid (Below w.heap.size w wr) ∧ Hid ((∀ m, m < lo → ksAt ks m < t) ∧ ∀ m, hi ≤ m → m < n → t ≤ ksAt ks m)) (fun i j _ => (intOf j - intOf i).toNat)
  case atStart => exact ⟨0, n, rfl, rfl, Nat.zero_le _, Nat.le_refl _, Lib.hid (Below.refl _ _), Lib.hid ⟨fun m h => absurd h (Nat.not_lt_zero _), fun m h1 h2 => by omega⟩⟩
  case round =>
    obtain ⟨lo, hi, rfl, rfl, hlh, hin, HB, HI⟩ := hrel
    by_cases hlt : lo < hi
    · obtain ⟨md, hmd⟩ : ∃ md, (lo + hi) / 2 = md := ⟨_, rfl⟩
      have hm1 : md < n := by omega
      have hm2 : lo ≤ md ∧ md < hi := by omega
      have cm := HC.out md hm1
      have cc := (HB.out.cell (p := ⟨g, o + md, none⟩) hg).trans cm
      have hq := HM.out md (by rw [HN.out]; exact hm1) wr HB.out
      obtain ⟨cv, hcv⟩ : ∃ cv, cmpI (ksAt ks md) t = cv := ⟨_, rfl⟩
      rw [hcv] at hq
      have HQ := Lib.hid hq
      have HCV := Lib.hid hcv
      clear hq hcv
      have hmI : ((lo : Int) + (hi : Int)) / 2 = (md : Int) := by omega
      by_cases hneg : cv < 0
      · go_wp2_with fail
        clear cm cc
        refine HQ.out.mono ?_
        rintro e w1 ⟨rfl, hb1⟩
        have HB1 := Lib.hid (HB.out.trans (hb1.mono HB.out.size))
        clear hb1
        go_wp2_with fail
        go_roundw
        case rel =>
          have hk : ksAt ks md < t := cmpI_neg.1 (by rw [HCV.out]; exact hneg)
          exact ⟨md + 1, hi, rfl, rfl, by omega, hin, HB1, Lib.hid ⟨fun m hm => by have := HR.out m md (by omega) hm1; omega, HI.out.2⟩⟩
        case measure => simp only [intOf]; omega
      · go_wp2_with fail
        clear cm cc
        refine HQ.out.mono ?_
        rintro e w1 ⟨rfl, hb1⟩
        have HB1 := Lib.hid (HB.out.trans (hb1.mono HB.out.size))
        clear hb1
        go_wp2_with fail
        go_roundw
        case rel =>
          have hk : t ≤ ksAt ks md := Int.not_lt.1 (fun h => by have := cmpI_neg.2 h; rw [HCV.out] at this; omega)
          exact ⟨lo, md, rfl, rfl, by omega, by omega, HB1, Lib.hid ⟨HI.out.1, fun m hm h2 => by have := HR.out md m hm h2; omega⟩⟩
        case measure => simp only [intOf]; omega
    · obtain rfl : hi = lo := by omega
      have ecnt : cnt = hi := by
        rw [← CN.out]
        exact cntLt_of (by rw [HN.out]; exact hin) HI.out.1 (fun m h1 h2 => HI.out.2 m h1 (by rw [HN.out] at h2; exact h2))
      subst ecnt
      have HF := Lib.hid FIN.out
      rw [CN.out] at HF
      by_cases hlt2 : cnt < n
      · have cm := HC.out cnt hlt2
        obtain ⟨md, hmd⟩ : ∃ md, cnt = md := ⟨_, rfl⟩
        rw [hmd] at cm
        have cc := (HB.out.cell (p := ⟨g, o + md, none⟩) hg).trans cm
        subst hmd
        have hq := HM.out cnt (by rw [HN.out]; exact hlt2) wr HB.out
        obtain ⟨cv, hcv⟩ : ∃ cv, cmpI (ksAt ks cnt) t = cv := ⟨_, rfl⟩
        rw [hcv] at hq
        have HQ := Lib.hid hq
        have hz : (cv = 0) ↔ ksAt ks cnt = t := by rw [← hcv]; exact cmpI_zero
        have HZ := Lib.hid hz
        clear hq hcv hz cm
        by_cases h0 : cv = 0
        · obtain rfl : fin = true := by have := HF.out; rw [← this]; simp [hlt2, HZ.out.1 h0]
          go_wp2_with fail
          refine HQ.out.mono ?_
          rintro e w1 ⟨rfl, hb1⟩
          have HB1 := Lib.hid (HB.out.trans (hb1.mono HB.out.size))
          clear hb1
          go_wp2_with fail
          exact bodyPost_ret (v := .tuple #[.int .i64 (cnt : Int), .bool true]) (by simp only [results, Try.results38]; go_simp) rfl ⟨rfl, HB1.out⟩
        · obtain rfl : fin = false := by have := HF.out; rw [← this]; simp [hlt2]; exact fun h => h0 (HZ.out.2 h)
          go_wp2_with fail
          refine HQ.out.mono ?_
          rintro e w1 ⟨rfl, hb1⟩
          have HB1 := Lib.hid (HB.out.trans (hb1.mono HB.out.size))
          clear hb1
          go_wp2_with fail
          exact bodyPost_ret (v := .tuple #[.int .i64 (cnt : Int), .bool false]) (by simp only [results, Try.results38]; go_simp) rfl ⟨rfl, HB1.out⟩
      · obtain rfl : fin = false := by have := HF.out; rw [← this]; simp [hlt2]
        go_wp2_with fail
        exact bodyPost_ret (v := .tuple #[.int .i64 (cnt : Int), .bool false]) (by simp only [results, Try.results38]; go_simp) rfl ⟨rfl, HB.out⟩
set_option maxRecDepth 100000 in
set_option maxHeartbeats 4000000 in
theorem bs_pt (g o n c : Nat) (el : Nat → Pt) (ks : List Int) (t : Int) (w : World) (hn : ks.length = n) (hN : n ≤ 1099511627776) (hg : g < w.heap.size) (hcell : ∀ i, i < n → PtAt w g (o + i * 3) (el i))
    (hrise : ∀ i j, i ≤ j → j < n → ksAt ks i ≤ ksAt ks j) (hc : CmpOf 45 (Below w.heap.size w) (fun i => bpv (el i)) ks t) :
    Calls Try.prog 43 #[.slice (some ⟨g, o, none⟩) n c, .int .i64 t, .func (.func 45) #[] #[]] w fun e w' =>
      e = .returned (.tuple #[.int .i64 (cntLt t ks : Int), .bool (decide (cntLt t ks < n) && decide (ksAt ks (cntLt t ks) = t))]) ∧ Below w.heap.size w w' := by
  have HC := Lib.hid hcell
  have HM := Lib.hid hc
  have HR := Lib.hid hrise
  have HN := Lib.hid hn
  clear hcell hc hrise hn
  obtain ⟨cnt, hcnt⟩ : ∃ x, cntLt t ks = x := ⟨_, rfl⟩
  obtain ⟨fin, hfin⟩ : ∃ x, (decide (cntLt t ks < n) && decide (ksAt ks (cntLt t ks) = t)) = x := ⟨_, rfl⟩
  have CN := Lib.hid hcnt
  have FIN := Lib.hid hfin
  rw [hfin, hcnt]
  clear hcnt hfin
  go_enter Try.func43, Try.ntmps43
  go_wp2_with fail
  go_loopw [9, 10] (fun i j wr => ∃ lo hi : Nat, i = .int .i64 lo ∧ j = .int .i64 hi ∧ lo ≤ hi ∧ hi ≤ n ∧ Hid (Below w.heap.size w wr) ∧ Hid ((∀ m, m < lo → ksAt ks m < t) ∧ ∀ m, hi ≤ m → m < n → t ≤ ksAt ks m)) (fun i j _ => (intOf j - intOf i).toNat)
  case atStart => exact ⟨0, n, rfl, rfl, Nat.zero_le _, Nat.le_refl _, Lib.hid (Below.refl _ _), Lib.hid ⟨fun m h => absurd h (Nat.not_lt_zero _), fun m h1 h2 => by omega⟩⟩
  case round =>
    obtain ⟨lo, hi, rfl, rfl, hlh, hin, HB, HI⟩ := hrel
    by_cases hlt : lo < hi
    · obtain ⟨md, hmd⟩ : ∃ md, (lo + hi) / 2 = md := ⟨_, rfl⟩
      have hm1 : md < n := by omega
      have hm2 : lo ≤ md ∧ md < hi := by omega
      have cm := HC.out md hm1
      obtain ⟨cc, cc2, cc3⟩ := cm.below hg HB.out
      have hq := HM.out md (by rw [HN.out]; exact hm1) wr HB.out
      obtain ⟨cv, hcv⟩ : ∃ cv, cmpI (ksAt ks md) t = cv := ⟨_, rfl⟩
      rw [hcv] at hq
      have HQ := Lib.hid hq
      have HCV := Lib.hid hcv
      clear hq hcv
      have hmI : ((lo : Int) + (hi : Int)) / 2 = (md : Int) := by omega
      by_cases hneg : cv < 0
      · go_wp2_with fail
        clear cm cc
        refine HQ.out.mono ?_
        rintro e w1 ⟨rfl, hb1⟩
        have HB1 := Lib.hid (HB.out.trans (hb1.mono HB.out.size))
        clear hb1
        go_wp2_with fail
        go_roundw
        case rel =>
          have hk : ksAt ks md < t := cmpI_neg.1 (by rw [HCV.out]; exact hneg)
          exact ⟨md + 1, hi, rfl, rfl, by omega, hin, HB1, Lib.hid ⟨fun m hm => by have := HR.out m md (by omega) hm1; omega, HI.out.2⟩⟩
        case measure => simp only [intOf]; omega
      · go_wp2_with fail
        clear cm cc
        refine HQ.out.mono ?_
        rintro e w1 ⟨rfl, hb1⟩
        have HB1 := Lib.hid (HB.out.trans (hb1.mono HB.out.size))
        clear hb1
        go_wp2_with fail
        go_roundw
        case rel =>
          have hk : t ≤ ksAt ks md := Int.not_lt.1 (fun h => by have := cmpI_neg.2 h; rw [HCV.out] at this; omega)
          exact ⟨lo, md, rfl, rfl, by omega, by omega, HB1, Lib.hid ⟨HI.out.1, fun m hm h2 => by have := HR.out md m hm h2; omega⟩⟩
        case measure => simp only [intOf]; omega
    · obtain rfl : hi = lo := by omega
      have ecnt : cnt = hi := by
        rw [← CN.out]
        exact cntLt_of (by rw [HN.out]; exact hin) HI.out.1 (fun m h1 h2 => HI.out.2 m h1 (by rw [HN.out] at h2; exact h2))
      subst ecnt
      have HF := Lib.hid FIN.out
      rw [CN.out] at HF
      by_cases hlt2 : cnt < n
      · have cm := HC.out cnt hlt2
        obtain ⟨md, hmd⟩ : ∃ md, cnt = md := ⟨_, rfl⟩
        rw [hmd] at cm
        obtain ⟨cc, cc2, cc3⟩ := cm.below hg HB.out
        subst hmd
        have hq := HM.out cnt (by rw [HN.out]; exact hlt2) wr HB.out
        obtain ⟨cv, hcv⟩ : ∃ cv, cmpI (ksAt ks cnt) t = cv := ⟨_, rfl⟩
        rw [hcv] at hq
        have HQ := Lib.hid hq
        have hz : (cv = 0) ↔ ksAt ks cnt = t := by rw [← hcv]; exact cmpI_zero
        have HZ := Lib.hid hz
        clear hq hcv hz cm
        by_cases h0 : cv = 0
        · obtain rfl : fin = true := by have := HF.out; rw [← this]; simp [hlt2, HZ.out.1 h0]
          go_wp2_with fail
          refine HQ.out.mono ?_
          rintro e w1 ⟨rfl, hb1⟩
          have HB1 := Lib.hid (HB.out.trans (hb1.mono HB.out.size))
          clear hb1
          go_wp2_with fail
          exact bodyPost_ret (v := .tuple #[.int .i64 (cnt : Int), .bool true]) (by simp only [results, Try.results43]; go_simp) rfl ⟨rfl, HB1.out⟩
        · obtain rfl : fin = false := by have := HF.out; rw [← this]; simp [hlt2]; exact fun h => h0 (HZ.out.2 h)
          go_wp2_with fail
          refine HQ.out.mono ?_
          rintro e w1 ⟨rfl, hb1⟩
          have HB1 := Lib.hid (HB.out.trans (hb1.mono HB.out.size))
          clear hb1
          go_wp2_with fail
          exact bodyPost_ret (v := .tuple #[.int .i64 (cnt : Int), .bool false]) (by simp only [results, Try.results43]; go_simp) rfl ⟨rfl, HB1.out⟩
      · obtain rfl : fin = false := by have := HF.out; rw [← this]; simp [hlt2]
        go_wp2_with fail
        exact bodyPost_ret (v := .tuple #[.int .i64 (cnt : Int), .bool false]) (by simp only [results, Try.results43]; go_simp) rfl ⟨rfl, HB.out⟩
end Go.Proofs.Ytfblmmnofhkkaaa
