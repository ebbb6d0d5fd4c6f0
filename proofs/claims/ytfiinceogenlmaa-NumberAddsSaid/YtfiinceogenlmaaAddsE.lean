/- NumberAdds: no values at all; the guards. -/
import Derived.Test.YtfiinceogenlmaaAddsR
import Derived.Test.YtfiinceogenlmaaPick
import Derived.Test.YtfiinceogenlmaaGreat
import Derived.OwnWalk
import Derived.LoopN
import Derived.Laws.AppendOwnNone
import Derived.BigRegion
namespace Go.Proofs.Ytfiinceogenlmaa
open Go.RowKit
theorem infoV' : (Try.prog.info? 25).map (fun i => (i.zero, i.size, i.bytes)) = some (some (.agg #[.int .i64 0, .bool false]), 2, 16) := by kernel_rfl
theorem undV' : Try.prog.underlying 22 = some (.slice 25) := by kernel_rfl
theorem own_none' (W : World) (base H : Nat) (hH : H = W.heap.size) (hb : base ≤ H) : (W.alloc (.cells #[] 25)).ownsRow base 25 2 (.slice (some ⟨H, 0, none⟩) 0 0) 0 [] := by
  subst hH
  exact World.ownsRow_lit W #[] 0 hb (by decide) rfl
/-- The state where no values are: the three sums are nothing. -/
structure SE (w : World) (a : Int) (x : Bool) (b : Int) (y : Bool) (G : Nat) (W : World) : Prop where
  sa : SA w a x b y W
  g : W.heap[G]? = some (Obj.cells #[.int .i64 (gH (0)), .int .u64 (gL (0)), .int .u64 (0)] 31)
  h : W.heap[G + 1]? = some (Obj.cells #[.int .i64 (gH (0)), .int .u64 (gL (0)), .int .u64 (0)] 31)
  k : W.heap[G + 1 + 1]? = some (Obj.cells #[.int .i64 (gH (0)), .int .u64 (gL (0)), .int .u64 (0)] 31)
set_option maxRecDepth 1000000 in
set_option maxHeartbeats 4000000 in
theorem adds_empty (A : Option Addr) (c : Nat) (hA : A = none → c = 0) (B : Option Addr) (m bc : Nat) (hz : m ≤ 500)
    (a b : Int) (x y : Bool) (ha : Val a x) (hb : Val b y) (w : World) :
    Calls Try.prog 3 #[.slice A 0 c, .slice B m bc, .agg #[.int .i64 a, .bool x], .agg #[.int .i64 b, .bool y]] w fun e w' => e = .returned (.bool true) ∧ Below w.heap.size w w' := by
  have HB := Below.refl (boxes w [Obj.cells #[.int .i64 (a), .bool x] 25, Obj.cells #[.int .i64 (b), .bool y] 25]).heap.size (boxes w [Obj.cells #[.int .i64 (a), .bool x] 25, Obj.cells #[.int .i64 (b), .bool y] 25])
  have CA := Lib.hid (fun W => check_ok a x ha.or W)
  have CB := Lib.hid (fun W => check_ok b y hb.or W)
  have HVA := Lib.hid ha
  have HVB := Lib.hid hb
  have e2 : ¬ ((500 : Int) < (m : Int)) := by omega
  obtain ⟨iV, hiV, hz0, hz1, hz2⟩ := info_parts infoV'
  clear ha hb
  go_enter Try.func3, Try.ntmps3
  go_wp2_with fail; refine (lives_any _).mono ?_; rintro e w1 ⟨rfl, hb1⟩; replace HB := HB.trans (hb1.mono HB.size); clear hb1
  have k1 : (w1).cell? ⟨w.heap.size, 0, none⟩ = some (.int .i64 a) := box_cell HB 0 0 rfl rfl _ rfl
  have k2 : (w1).cell? ⟨w.heap.size, 1, none⟩ = some (.bool x) := box_cell HB 0 1 rfl rfl _ rfl
  go_wp2_with fail; refine (CA.out _).mono ?_; rintro e w1 ⟨rfl, hb1⟩; replace HB := HB.trans (hb1.mono HB.size); clear hb1
  have k3 : (w1).cell? ⟨w.heap.size + 1, 0, none⟩ = some (.int .i64 b) := box_cell HB 1 0 rfl rfl _ rfl
  have k4 : (w1).cell? ⟨w.heap.size + 1, 1, none⟩ = some (.bool y) := box_cell HB 1 1 rfl rfl _ rfl
  go_wp2_with fail; refine (CB.out _).mono ?_; rintro e w1 ⟨rfl, hb1⟩; replace HB := HB.trans (hb1.mono HB.size); clear hb1
  have hs1 : w.heap.size + 2 ≤ w1.heap.size := by have := HB.size; rw [boxes_size] at this; simpa using this
  have hbw := Lib.hid (box_base HB)
  have S0 := Lib.hid (SA.mk (box_at HB 0 rfl _ rfl) (box_at HB 1 rfl _ rfl) hbw.out)
  clear HB k1 k2 k3 k4
  have kG : ∀ W, Below (((w1.alloc (Obj.cells #[.int .i64 (gH (0)), .int .u64 (gL (0)), .int .u64 (0)] 31)).alloc (Obj.cells #[.int .i64 (gH (0)), .int .u64 (gL (0)), .int .u64 (0)] 31)).alloc (Obj.cells #[.int .i64 (gH (0)), .int .u64 (gL (0)), .int .u64 (0)] 31)).heap.size (((w1.alloc (Obj.cells #[.int .i64 (gH (0)), .int .u64 (gL (0)), .int .u64 (0)] 31)).alloc (Obj.cells #[.int .i64 (gH (0)), .int .u64 (gL (0)), .int .u64 (0)] 31)).alloc (Obj.cells #[.int .i64 (gH (0)), .int .u64 (gL (0)), .int .u64 (0)] 31)) W → Hid (SE w a x b y w1.heap.size W) := fun W hb => by
    have s1 := keepA (keepA (newB w1 (Obj.cells #[.int .i64 (gH (0)), .int .u64 (gL (0)), .int .u64 (0)] 31)) (Obj.cells #[.int .i64 (gH (0)), .int .u64 (gL (0)), .int .u64 (0)] 31)) (Obj.cells #[.int .i64 (gH (0)), .int .u64 (gL (0)), .int .u64 (0)] 31)
    have s2 := keepA (newB (w1.alloc (Obj.cells #[.int .i64 (gH (0)), .int .u64 (gL (0)), .int .u64 (0)] 31)) (Obj.cells #[.int .i64 (gH (0)), .int .u64 (gL (0)), .int .u64 (0)] 31)) (Obj.cells #[.int .i64 (gH (0)), .int .u64 (gL (0)), .int .u64 (0)] 31)
    have s3 := newB ((w1.alloc (Obj.cells #[.int .i64 (gH (0)), .int .u64 (gL (0)), .int .u64 (0)] 31)).alloc (Obj.cells #[.int .i64 (gH (0)), .int .u64 (gL (0)), .int .u64 (0)] 31)) (Obj.cells #[.int .i64 (gH (0)), .int .u64 (gL (0)), .int .u64 (0)] 31)
    rw [alloc_size] at s2
    rw [alloc_size, alloc_size] at s3
    exact Lib.hid ⟨(((S0.out.box _).box _).box _).keep hb, keepB s1 hb, keepB s2 hb, keepB s3 hb⟩
  have kG := Lib.hid kG
  cases A
  case' none =>
    obtain rfl : c = 0 := hA rfl
    go_wp2_with (at_builtin; refine wpList_append_own_none rfl _ _ 22 rfl (w1.heap.size + 3) 25 iV 2 undV' hiV (.slice (some ⟨w1.heap.size + 1 + 1 + 1, 0, none⟩) 0 0) 0 [] (by rfl) (own_none' _ _ _ ?d1 (by omega)) (by rfl) ?_)
    case d1 => simp only [alloc_size]
    refine wp_forget (fun W => Hid (SE w a x b y w1.heap.size W)) (kG.out _ ((Below.refl _ _).alloc (Nat.le_refl _) _)) ?_
  case' some =>
    go_wp2_with (at_builtin; refine wpList_append_own _ rfl _ _ 22 rfl (w1.heap.size + 3) 25 iV (.agg #[.int .i64 0, .bool false]) 2 16 undV' hiV hz0 hz1 hz2 rfl (by decide) (.slice (some ⟨w1.heap.size + 1 + 1 + 1, 0, none⟩) 0 0) 0 [] (by rfl) (own_none' _ _ _ ?d1 (by omega)) _ 0 c [] (by rfl) rfl (by simp) (by simp) (by decide) (by omega) ?d3 ?c2)
    case d1 => simp only [alloc_size]
    case d3 => simp only [alloc_size]; omega
    case' c2 =>
      intro v2 w2 hown hgrow hne
      have SS := kG.out w2 (((Below.refl _ _).alloc (Nat.le_refl _) _).grown hgrow (by simp only [alloc_size]; omega) (fun k e => by simp only [Value.ownBlock, Option.some.injEq] at e; simp only [alloc_size]; omega))
      have hv2 : ∃ g cap, v2 = .slice (some ⟨g, 0, none⟩) 0 cap := by
        rcases hown.2 with ⟨rfl, _⟩ | ⟨g, cap, cur, rfl, _⟩
        · exact absurd rfl hne
        · exact ⟨g, cap, rfl⟩
      clear hown hgrow hne
      obtain ⟨g, cap, rfl⟩ := hv2
      go_wp2_with fail
      refine wp_forget (fun W => Hid (SE w a x b y w1.heap.size W)) SS ?_
  all_goals
    intro W SS
    have d1 := cellAt SS.out.g (o := 0) rfl
    have d2 := cellAt SS.out.g (o := 1) rfl
    have d3 := cellAt SS.out.g (o := 2) rfl
    have d4 := cellAt SS.out.h (o := 0) rfl
    have d5 := cellAt SS.out.h (o := 1) rfl
    have d6 := cellAt SS.out.h (o := 2) rfl
    have d7 := cellAt SS.out.k (o := 0) rfl
    have d8 := cellAt SS.out.k (o := 1) rfl
    have d9 := cellAt SS.out.k (o := 2) rfl
    go_wp2_with fail
    refine wp_loop_rounds 1 ?_
    rw [rounds_succ]
    go_wp2_with fail
    refine wp_loop_rounds 1 ?_
    rw [rounds_succ]
    go_wp2_with fail
    refine wp_loop_rounds 1 ?_
    rw [rounds_succ]
    go_wp2_with fail
    have S3h := Lib.hid SS.out.sa
    clear d1 d2 d3 d4 d5 d6 d7 d8 d9 SS
    go_loopw [18] (fun o wr => ∃ op : Int, (op = 1 ∨ op = 3 ∨ op = 5) ∧ o = .int .i64 op ∧ Hid (SA w a x b y wr)) (fun o _ => (5 - intOf o).toNat)
    case atStart => exact ⟨1, by omega, rfl, S3h⟩
    case round =>
      obtain ⟨op, hop, rfl, S5⟩ := hrel
      have d1 := cellAt S5.out.a (o := 0) rfl
      have d2 := cellAt S5.out.a (o := 1) rfl
      have d3 := cellAt S5.out.b (o := 0) rfl
      have d4 := cellAt S5.out.b (o := 1) rfl
      by_cases h5 : op = 5
      · subst h5
        clear hop
        obtain ⟨N, O, N2, O2, T1, P1, T2, P2, hO, D1, D2, E1, E2, E3⟩ := tail_facts a b x y HVA.out HVB.out
        replace D1 := Lib.hid D1
        replace D2 := Lib.hid D2
        replace E1 := Lib.hid E1
        replace E2 := Lib.hid E2
        replace E3 := Lib.hid E3
        have HO2 := Lib.hid hO
        clear hO
        go_wp2_with fail
        refine (D1.out _).mono ?_; rintro e w5 ⟨rfl, hb5⟩
        replace S5 := Lib.hid ((S5.out.keep hb5).box (Obj.cells #[.int .i64 (N), .bool O] 25))
        clear d1 d2 d3 d4 hb5
        have d3 := cellAt S5.out.b (o := 0) rfl
        have d4 := cellAt S5.out.b (o := 1) rfl
        have G1 := newB w5 (Obj.cells #[.int .i64 (N), .bool O] 25)
        go_wp2_with fail
        refine (D2.out _).mono ?_; rintro e w6 ⟨rfl, hb6⟩
        replace S5 := Lib.hid ((S5.out.keep hb6).box (Obj.cells #[.int .i64 (N2), .bool O2] 25))
        replace G1 := Lib.hid (keepA (keepB G1 hb6) (Obj.cells #[.int .i64 (N2), .bool O2] 25))
        have G2 := Lib.hid (newB w6 (Obj.cells #[.int .i64 (N2), .bool O2] 25))
        clear d3 d4 hb6
        go_wp2_with fail
        cases O
        case' false =>
          obtain ⟨r1, r2⟩ := HO2.out rfl
          subst r1
          subst r2
        all_goals
          clear HO2
          refine wp_region_here 17 [(0, false), (1, false), (2, false), (3, false), (4, false), (5, false), (6, false), (7, false), (8, false), (9, false), (10, false), (11, false), (12, false), (13, false), (14, false), (15, false), (16, false)] (fun _ => .cells #[] 0) (by kernel_rfl) (by kernel_rfl) ?_
          repeat (first | (refine wpP_q rfl rfl rfl ?_; apply Exists.intro; refine ⟨fun w' hw' => ?_, fun K hK => ?_⟩; (focus ((have q0 := S5.out.keep hw'; have q1 := cellAt q0.a (o := 0) rfl; have q2 := cellAt q0.a (o := 1) rfl; have q3 := cellAt q0.b (o := 0) rfl; have q4 := cellAt q0.b (o := 1) rfl; have q5 := cellAt (o := 0) (keepB G1.out hw') rfl; have q6 := cellAt (o := 1) (keepB G1.out hw') rfl; have q7 := cellAt (o := 0) (keepB G2.out hw') rfl; have q8 := cellAt (o := 1) (keepB G2.out hw') rfl; clear q0); go_simp; first | exact quiet_value | first | with_reducible exact quiet_enter (E1.out _) | with_reducible exact quiet_enter (E2.out _) | with_reducible exact quiet_enter (E3.out _))); simp only [Act.put, List.setIfInBounds_toArray, List.set_cons_zero, List.set_cons_succ]; refine hK.out _ ?_; clear hK K) | (refine wpP_skip rfl rfl rfl (fun K hK => ?_); simp only [Act.put, List.setIfInBounds_toArray, List.set_cons_zero, List.set_cons_succ]; refine hK.out _ ?_; clear hK K))
          refine wpP_nil ?_
          intro w7 HB7
          have HF := Lib.hid (S5.out.keep HB7).below
          clear HB7
          simp only [List.drop_succ_cons, List.drop_zero]
          go_wp2_with fail
          go_ret
          exact ⟨rfl, HF.out⟩
      · have hop3 : op = 1 ∨ op = 3 := by omega
        obtain ⟨N, O, D1, D2⟩ := comm_facts op a b x y hop3 HVA.out HVB.out
        replace D1 := Lib.hid D1
        replace D2 := Lib.hid D2
        have hop1 : 1 ≤ op := by omega
        have hop2 : op ≤ 3 := by omega
        clear h5 hop
        have HOP := Lib.hid hop3
        clear hop3
        go_wp2_with fail
        refine (D1.out _).mono ?_; rintro e w5 ⟨rfl, hb5⟩
        replace S5 := Lib.hid ((S5.out.keep hb5).box (Obj.cells #[.int .i64 (N), .bool O] 25))
        clear d1 d2 d3 d4 hb5
        have d1 := cellAt S5.out.a (o := 0) rfl
        have d2 := cellAt S5.out.a (o := 1) rfl
        have d3 := cellAt S5.out.b (o := 0) rfl
        have d4 := cellAt S5.out.b (o := 1) rfl
        have G1 := newB w5 (Obj.cells #[.int .i64 (N), .bool O] 25)
        go_wp2_with fail
        refine (D2.out _).mono ?_; rintro e w6 ⟨rfl, hb6⟩
        replace S5 := Lib.hid ((S5.out.keep hb6).box (Obj.cells #[.int .i64 (N), .bool O] 25))
        replace G1 := keepA (keepB G1 hb6) (Obj.cells #[.int .i64 (N), .bool O] 25)
        have G2 := newB w6 (Obj.cells #[.int .i64 (N), .bool O] 25)
        clear d1 d2 d3 d4 hb6
        have d1 := cellAt G1 (o := 0) rfl
        have d2 := cellAt G1 (o := 1) rfl
        have d3 := cellAt G2 (o := 0) rfl
        have d4 := cellAt G2 (o := 1) rfl
        clear G1 G2
        go_wp2_with fail
        go_roundw
        case rel => exact ⟨op + 2, by have := HOP.out; omega, by go_num, S5⟩
        case measure => simp [intOf]; omega

set_option maxRecDepth 1000000 in
/-- Beyond the guards. -/
theorem adds_out (A B : Option Addr) (n c m bc : Nat) (a b : Int) (x y : Bool) (h : 500 < n ∨ 500 < m ∨ (x = true ∧ a ≠ 0) ∨ (y = true ∧ b ≠ 0)) (hn : n ≤ maxLen) (hm : m ≤ maxLen) (w : World) :
    Calls Try.prog 3 #[.slice A n c, .slice B m bc, .agg #[.int .i64 a, .bool x], .agg #[.int .i64 b, .bool y]] w fun e w' => e = .returned (.bool true) ∧ Below w.heap.size w w' := by
  unfold maxLen at hn hm
  have HB := Below.refl (boxes w [Obj.cells #[.int .i64 (a), .bool x] 25, Obj.cells #[.int .i64 (b), .bool y] 25]).heap.size (boxes w [Obj.cells #[.int .i64 (a), .bool x] 25, Obj.cells #[.int .i64 (b), .bool y] 25])
  by_cases h1 : 500 < n
  · have e1 : (500 : Int) < (n : Int) := by omega
    clear h
    go_enter Try.func3, Try.ntmps3
    go_wp2_with fail; refine (lives_any _).mono ?_; rintro e w1 ⟨rfl, hb1⟩; replace HB := HB.trans (hb1.mono HB.size); clear hb1
    go_wp2_with fail
    go_ret
    exact ⟨rfl, box_base HB⟩
  have e1 : n ≤ 500 := by omega
  by_cases h2 : 500 < m
  · have e2 : (500 : Int) < (m : Int) := by omega
    clear h h1
    go_enter Try.func3, Try.ntmps3
    go_wp2_with fail; refine (lives_any _).mono ?_; rintro e w1 ⟨rfl, hb1⟩; replace HB := HB.trans (hb1.mono HB.size); clear hb1
    go_wp2_with fail
    go_ret
    exact ⟨rfl, box_base HB⟩
  have e2 : m ≤ 500 := by omega
  by_cases h3 : x = true ∧ a ≠ 0
  · obtain ⟨rfl, h3⟩ := h3
    have CA := Lib.hid (fun W => check_bad a h3 W)
    clear h h1 h2 h3
    go_enter Try.func3, Try.ntmps3
    go_wp2_with fail; refine (lives_any _).mono ?_; rintro e w1 ⟨rfl, hb1⟩; replace HB := HB.trans (hb1.mono HB.size); clear hb1
    have k1 : (w1).cell? ⟨w.heap.size, 0, none⟩ = some (.int .i64 a) := box_cell HB 0 0 rfl rfl _ rfl
    have k2 : (w1).cell? ⟨w.heap.size, 1, none⟩ = some (.bool true) := box_cell HB 0 1 rfl rfl _ rfl
    go_wp2_with fail; refine (CA.out _).mono ?_; rintro e w1 ⟨rfl, hb1⟩; replace HB := HB.trans (hb1.mono HB.size); clear hb1
    go_wp2_with fail
    go_ret
    exact ⟨rfl, box_base HB⟩
  have CA := Lib.hid (fun W => check_ok a x (by cases x <;> simp_all) W)
  have h4 : y = true ∧ b ≠ 0 := by
    rcases h with h | h | h | h
    · exact absurd h h1
    · exact absurd h h2
    · exact absurd h h3
    · exact h
  obtain ⟨rfl, h4⟩ := h4
  have CB := Lib.hid (fun W => check_bad b h4 W)
  clear h h1 h2 h3 h4
  have e3 : decide ((500 : Int) < (n : Int)) = false := by simp; omega
  have e4 : decide ((500 : Int) < (m : Int)) = false := by simp; omega
  go_enter Try.func3, Try.ntmps3
  go_wp2_with fail; refine (lives_any _).mono ?_; rintro e w1 ⟨rfl, hb1⟩; replace HB := HB.trans (hb1.mono HB.size); clear hb1
  have k1 : (w1).cell? ⟨w.heap.size, 0, none⟩ = some (.int .i64 a) := box_cell HB 0 0 rfl rfl _ rfl
  have k2 : (w1).cell? ⟨w.heap.size, 1, none⟩ = some (.bool x) := box_cell HB 0 1 rfl rfl _ rfl
  go_wp2_with fail; refine (CA.out _).mono ?_; rintro e w1 ⟨rfl, hb1⟩; replace HB := HB.trans (hb1.mono HB.size); clear hb1
  have k3 : (w1).cell? ⟨w.heap.size + 1, 0, none⟩ = some (.int .i64 b) := box_cell HB 1 0 rfl rfl _ rfl
  have k4 : (w1).cell? ⟨w.heap.size + 1, 1, none⟩ = some (.bool true) := box_cell HB 1 1 rfl rfl _ rfl
  go_wp2_with fail; refine (CB.out _).mono ?_; rintro e w1 ⟨rfl, hb1⟩; replace HB := HB.trans (hb1.mono HB.size); clear hb1
  go_wp2_with fail
  go_ret
  exact ⟨rfl, box_base HB⟩
end Go.Proofs.Ytfiinceogenlmaa
