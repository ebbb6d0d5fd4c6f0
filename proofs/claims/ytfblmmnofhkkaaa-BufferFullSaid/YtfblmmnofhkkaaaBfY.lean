/- BufferFull, walked. -/
import Derived.Test.YtfblmmnofhkkaaaPtK
namespace Go.Proofs.Ytfblmmnofhkkaaa
open Go.RowKit
/-- Points at the multiples of k, from behind the s-th on. -/
def mulF (k n : Int) (s j : Nat) : List Pt := (List.range j).map (fun x => (((s + x + 1 : Nat) : Int) * k, n))
theorem mulF_len (k n : Int) (s j : Nat) : (mulF k n s j).length = j := by simp [mulF]
theorem mulF_mem {k n : Int} {s j : Nat} {q : Pt} (hk : 1 ≤ k) (h : q ∈ mulF k n s j) : (s : Int) * k < q.1 ∧ q.1 ≤ ((s + j : Nat) : Int) * k := by
  obtain ⟨x, hx, rfl⟩ := List.mem_map.1 h
  have hx := List.mem_range.1 hx
  simp only
  constructor
  · exact Int.mul_lt_mul_of_pos_right (by omega) (by omega)
  · exact Int.mul_le_mul_of_nonneg_right (by omega) (by omega)
theorem mulF_succ (k n : Int) (s j : Nat) : mulF k n s (j + 1) = mulF k n s j ++ [(((s + j + 1 : Nat) : Int) * k, n)] := by
  unfold mulF; rw [List.range_succ, List.map_append]; rfl
theorem mulF_add (k n : Int) (i j : Nat) : mulF k n 0 (i + j) = mulF k n 0 i ++ mulF k n i j := by
  unfold mulF
  rw [List.range_add, List.map_append, List.map_map]
  congr 1
  apply List.map_congr_left
  intro x _
  simp only [Function.comp, Nat.zero_add]
theorem ins_last {q : Pt} {P : List Pt} (h : ∀ p ∈ P, p.1 < q.1) : insP q P = P ++ [q] := by
  unfold insP
  rw [filter_all (fun p hp => by simpa using h p hp), filter_no (fun p hp => by have := h p hp; simp; omega)]
theorem has_not_last {t : Int} {P : List Pt} (h : ∀ p ∈ P, p.1 < t) : hasT t P = false := hasT_not.2 (fun q hq => by have := h q hq; omega)
theorem full_put {k n : Int} {i : Nat} {t : Int} (hk : 1 ≤ k ∧ k ≤ 3) (hi : i < 65536) (ht : ((i + 1 : Nat) : Int) * k = t) : putE t (mulF k n 0 i) 0 = 0 ∧ putP t n (mulF k n 0 i) 0 = mulF k n 0 (i + 1) ∧ 1 ≤ t ∧ t ≤ 196608 := by
  have h1 : 1 ≤ t ∧ t ≤ 196608 := by
    obtain h | h | h : k = 1 ∨ k = 2 ∨ k = 3 := by omega
    all_goals
      subst h ht
      omega
  have h2 : ∀ p ∈ mulF k n 0 i, p.1 < t := fun p hp => by
    have := (mulF_mem hk.1 hp).2
    have h3 : ((0 + i : Nat) : Int) * k < ((i + 1 : Nat) : Int) * k := Int.mul_lt_mul_of_pos_right (by omega) (by omega)
    omega
  have h3 : putE t (mulF k n 0 i) 0 = 0 := by
    unfold putE
    rw [if_neg (by omega), if_neg (by omega), has_not_last h2, if_neg (by decide), mulF_len, if_neg (by omega)]
  refine ⟨h3, ?_, h1⟩
  unfold putP
  rw [h3, if_pos rfl, ins_last h2, mulF_succ, ← ht]
  simp
theorem full_more {k n : Int} {M : Nat} (hM : M = 65536) (hk : 1 ≤ k ∧ k ≤ 3) : putE (65536 * k + 1) (mulF k n 0 M) 0 = 3 ∧ putP (65536 * k + 1) n (mulF k n 0 M) 0 = mulF k n 0 M ∧ putE k (mulF k n 0 M) 0 = 7 ∧ putP k n (mulF k n 0 M) 0 = mulF k n 0 M ∧
    trimE (5 * k) (mulF k n 0 M) 0 = (5, 0) ∧ trimP (5 * k) (mulF k n 0 M) 0 = mulF k n 5 (M - 5) ∧ trimF (5 * k) 0 = 5 * k ∧ putE (65536 * k + 1) (mulF k n 5 (M - 5)) (5 * k) = 0 ∧ putP (65536 * k + 1) n (mulF k n 5 (M - 5)) (5 * k) = mulF k n 5 (M - 5) ++ [(65536 * k + 1, n)] := by
  have h1 : ∀ p ∈ mulF k n 0 M, p.1 < 65536 * k + 1 := fun p hp => by
    have := (mulF_mem hk.1 hp).2
    rw [hM] at this
    have e : ((0 + 65536 : Nat) : Int) * k = 65536 * k := by simp
    omega
  have h2 : ∀ p ∈ mulF k n 5 (M - 5), p.1 < 65536 * k + 1 := fun p hp => by
    have := (mulF_mem hk.1 hp).2
    have e : ((5 + (M - 5) : Nat) : Int) * k = 65536 * k := by congr 1; omega
    omega
  have a1 : putE (65536 * k + 1) (mulF k n 0 M) 0 = 3 := by
    unfold putE
    rw [if_neg (by omega), if_neg (by omega), has_not_last h1, if_neg (by decide), mulF_len, if_pos hM]
  have a2 : putE k (mulF k n 0 M) 0 = 7 := by
    have : hasT k (mulF k n 0 M) = true := hasT_iff.2 ⟨(((0 + 0 + 1 : Nat) : Int) * k, n), List.mem_map.2 ⟨0, List.mem_range.2 (by omega), rfl⟩, by simp⟩
    unfold putE
    rw [if_neg (by omega), if_neg (by omega), if_pos this]
  have a3 : aboveP (5 * k) (mulF k n 0 M) = mulF k n 5 (M - 5) := by
    have e : M = 5 + (M - 5) := by omega
    conv => lhs; rw [e, mulF_add]
    unfold aboveP
    rw [List.filter_append, filter_no (fun q hq => ?_), filter_all (fun q hq => ?_), List.nil_append]
    · have := (mulF_mem hk.1 hq).1
      simp at this ⊢; omega
    · have := (mulF_mem hk.1 hq).2
      simp at this ⊢; omega
  have a4 : putE (65536 * k + 1) (mulF k n 5 (M - 5)) (5 * k) = 0 := by
    unfold putE
    rw [if_neg (by omega), if_neg (by omega), has_not_last h2, if_neg (by decide), mulF_len, if_neg (by omega)]
  refine ⟨a1, ?_, a2, ?_, ?_, ?_, ?_, a4, ?_⟩
  · unfold putP; rw [a1]; rfl
  · unfold putP; rw [a2]; rfl
  · unfold trimE
    rw [if_neg (by omega), a3, mulF_len, mulF_len]
    congr 1
    omega
  · unfold trimP; rw [if_neg (by omega)]; exact a3
  · unfold trimF; rw [if_neg (by omega)]
  · unfold putP; rw [a4, if_pos rfl, ins_last h2]
set_option maxHeartbeats 4000000 in
set_option maxRecDepth 100000 in
theorem bfull_any (step n : Int) (w : World) : Calls Try.prog 3 #[.int .i64 step, .int .i64 n] w fun e w' => e = .returned (.bool true) ∧ Below w.heap.size w w' := by
  obtain ⟨p1, p2⟩ := pickN_in step (show (1 : Int) ≤ 3 by omega)
  have CP := Lib.hid (fun W => pick_any step 3 (by omega) W)
  obtain ⟨r, hr⟩ : ∃ r, pickN step 3 = r := ⟨_, rfl⟩
  rw [hr] at p1 p2 CP
  obtain ⟨k, hkr⟩ : ∃ k, r + 1 = k := ⟨_, rfl⟩
  have hk : 1 ≤ k ∧ k ≤ 3 := by omega
  have hwk : IntKind.i64.wrap (r + 1) = k := by rw [IntKind.wrap_i64]; omega
  have HKK := Lib.hid hk
  clear hr hkr
  go_enter Try.func3, Try.ntmps3
  go_wp2_with fail
  refine (lives_any w).mono ?_
  rintro e w1 ⟨rfl, hb⟩
  have HB1 := Lib.hid hb
  clear hb
  go_wp2_with fail
  refine (CP.out _).mono ?_
  rintro e w2 ⟨rfl, rfl⟩
  go_wp2_with fail
  refine (new_lm HB1.out).mono ?_
  rintro e w2 ⟨rfl, h2⟩
  have HS := Lib.hid h2
  obtain ⟨b, hb⟩ : ∃ b, w1.heap.size = b := ⟨_, rfl⟩
  rw [hb] at HS
  clear h2
  go_wp2_with fail
  clear hb
  go_loopw [7] (fun v wr => ∃ i : Nat, i ≤ 65536 ∧ v = .int .i64 ((i + 1 : Nat) : Int) ∧ Hid (LM w (BufO b (mulF k n 0 i) 0) wr)) (fun v _ => 65537 - (intOf v).toNat)
  case atStart => exact ⟨0, by omega, rfl, HS⟩
  clear HS HB1
  case round =>
    obtain ⟨i, hi, rfl, HS⟩ := hrel
    obtain ⟨t, ht⟩ : ∃ t, ((i + 1 : Nat) : Int) * k = t := ⟨_, rfl⟩
    by_cases h0 : i < 65536
    · obtain ⟨e1, e2, e3⟩ := full_put (n := n) HKK.out h0 ht
      obtain ⟨i1, hi1⟩ : ∃ i1, i + 1 = i1 := ⟨_, rfl⟩
      rw [hi1] at ht e2 ⊢
      have hwt : IntKind.i64.wrap ((i1 : Int) * k) = t := by rw [ht, IntKind.wrap_i64]; omega
      have hw1 : IntKind.i64.wrap ((i1 : Int) + 1) = ((i1 + 1 : Nat) : Int) := by rw [IntKind.wrap_i64]; omega
      have HC := Lib.hid (fun W (h : LM w (BufO b (mulF k n 0 i) 0) W) => h.turn (fun F h => put_go t n e1 e2 h))
      have HI1 := Lib.hid hi1
      have hi2 : (i1 : Int) ≤ 65536 := by omega
      clear e1 e2 e3 ht hi1
      go_wp2_with fail
      refine (HC.out _ HS.out).mono ?_
      rintro e w3 ⟨rfl, h3⟩
      have HS3 := Lib.hid h3
      clear h3 HC
      go_wp2_with fail
      go_roundw
      case rel => exact ⟨i1, by omega, rfl, HS3⟩
      case measure => simp [intOf]; omega
    · obtain ⟨M, hM⟩ : ∃ M : Nat, M = 65536 := ⟨_, rfl⟩
      obtain rfl : i = M := by omega
      clear ht t
      obtain ⟨a1, a2, a3, a4, a5, a6, a7, a8, a9⟩ := full_more (n := n) hM HKK.out
      have hln : (mulF k n 5 (i - 5) ++ [(65536 * k + 1, n)]).length = 65532 := by rw [List.length_append, mulF_len]; simp; omega
      obtain ⟨P, hP⟩ : ∃ P, mulF k n 0 i = P := ⟨_, rfl⟩
      obtain ⟨Q, hQ⟩ : ∃ P, mulF k n 5 (i - 5) = P := ⟨_, rfl⟩
      rw [hP] at a1 a2 a3 a4 a5 a6 HS
      rw [hQ] at a6 a8 a9 hln
      obtain ⟨T, hT⟩ : ∃ T, 65536 * k + 1 = T := ⟨_, rfl⟩
      obtain ⟨T5, hT5⟩ : ∃ T, 5 * k = T := ⟨_, rfl⟩
      rw [hT] at a1 a2 a8 a9 hln
      rw [hT5] at a5 a6 a7 a8 a9
      obtain ⟨R, hR⟩ : ∃ R, Q ++ [(T, n)] = R := ⟨_, rfl⟩
      rw [hR] at a9 hln
      have hkk := HKK.out
      have HSS := Lib.hid HS.out
      have w1 : IntKind.i64.wrap (65536 * k) = 65536 * k := by rw [IntKind.wrap_i64]; omega
      have w2 : IntKind.i64.wrap (65536 * k + 1) = T := by rw [IntKind.wrap_i64]; omega
      have w3 : IntKind.i64.wrap (5 * k) = T5 := by rw [IntKind.wrap_i64]; omega
      have D1 := Lib.hid (fun W (h : LM w (BufO b P 0) W) => h.turn (fun F h => put_go T n a1 a2 h))
      have D2 := Lib.hid (fun W (h : LM w (BufO b P 0) W) => h.turn (fun F h => put_go k n a3 a4 h))
      have D3 := Lib.hid (fun W (h : LM w (BufO b P 0) W) => h.turn (fun F h => trim_go T5 a5 a6 a7 h))
      have D4 := Lib.hid (fun W (h : LM w (BufO b Q T5) W) => h.turn (fun F h => put_go T n a8 a9 h))
      have D5 := Lib.hid (fun W (h : LM w (BufO b R T5) W) => h.read (fun F h => len_go hln h))
      obtain ⟨i1, hi1⟩ : ∃ i1, i + 1 = i1 := ⟨_, rfl⟩
      rw [hi1]
      have hi3 : (65536 : Int) < (i1 : Int) := by omega
      clear hi hi1 HKK HS CP
      clear a1 a2 a3 a4 a5 a6 a7 a8 a9 hln hP hQ hR hT hT5 hM h0
      go_wp2_with fail
      refine (D1.out _ HSS.out).mono ?_; rintro e w3 ⟨rfl, h3⟩; replace HSS := Lib.hid h3; clear h3; go_wp2_with fail
      refine (D2.out _ HSS.out).mono ?_; rintro e w3 ⟨rfl, h3⟩; replace HSS := Lib.hid h3; clear h3; go_wp2_with fail
      refine (D3.out _ HSS.out).mono ?_; rintro e w3 ⟨rfl, h3⟩; replace HSS := Lib.hid h3; clear h3; go_wp2_with fail
      refine (D4.out _ HSS.out).mono ?_; rintro e w3 ⟨rfl, h3⟩; replace HSS := Lib.hid h3; clear h3; go_wp2_with fail
      refine (D5.out _ HSS.out).mono ?_
      rintro e w3 ⟨rfl, h3⟩
      have HE := Lib.hid (HSS.out.below.trans (h3.mono HSS.out.size))
      clear h3
      go_wp2_with fail
      go_ret
      exact ⟨rfl, HE.out⟩
end Go.Proofs.Ytfblmmnofhkkaaa
