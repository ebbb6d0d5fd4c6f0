/- NumberAdds: the walk. -/
import Derived.Test.YtfiinceogenlmaaAddsR
import Derived.Test.YtfiinceogenlmaaPick
import Derived.Test.YtfiinceogenlmaaGreat
import Derived.OwnWalk
import Derived.BigRegion
namespace Go.Proofs.Ytfiinceogenlmaa
open Go.RowKit
theorem infoV : (Try.prog.info? 25).map (fun i => (i.zero, i.size, i.bytes)) = some (some (.agg #[.int .i64 0, .bool false]), 2, 16) := by kernel_rfl
theorem undV : Try.prog.underlying 22 = some (.slice 25) := by kernel_rfl
theorem own_none (W : World) (base H : Nat) (hH : H = W.heap.size) (hb : base ≤ H) : (W.alloc (.cells #[] 25)).ownsRow base 25 2 (.slice (some ⟨H, 0, none⟩) 0 0) 0 [] := by
  subst hH
  exact World.ownsRow_lit W #[] 0 hb (by decide) rfl
set_option maxRecDepth 1000000 in
set_option maxHeartbeats 4000000 in
theorem adds_core (l : List El) (hl : ∀ e ∈ l, I64 e.1) (h500 : l.length ≤ 500) (h0 : 0 < l.length) (la : Addr) (lc : Nat)
    (ob : Option Addr) (zs : List Int) (bc : Nat) (hz : zs.length ≤ 500) (hzw : ∀ z ∈ zs, I64 z)
    (a b : Int) (x y : Bool) (ha : Val a x) (hb : Val b y) (w : World) (hla : la.block < w.heap.size) (hll : liesE w la l)
    (hbb : ∀ ba, ob = some ba → ∀ i (h : i < zs.length), ba.block < w.heap.size ∧ w.cell? (ba.add i) = some (.int .i64 zs[i])) (hob : 0 < zs.length → ob ≠ none) :
    Calls Try.prog 3 #[.slice (some la) l.length lc, .slice ob zs.length bc, .agg #[.int .i64 a, .bool x], .agg #[.int .i64 b, .bool y]] w fun e w' => e = .returned (.bool true) ∧ Below w.heap.size w w' := by
  have HB := Below.refl (boxes w [Obj.cells #[.int .i64 (a), .bool x] 25, Obj.cells #[.int .i64 (b), .bool y] 25]).heap.size (boxes w [Obj.cells #[.int .i64 (a), .bool x] 25, Obj.cells #[.int .i64 (b), .bool y] 25])
  have CA := Lib.hid (fun W => check_ok a x ha.or W)
  have CB := Lib.hid (fun W => check_ok b y hb.or W)
  have HLL := Lib.hid hll
  have HBB := Lib.hid hbb
  have HOB := Lib.hid hob
  have HL := Lib.hid hl
  have HZ := Lib.hid hzw
  have HVA := Lib.hid ha
  have HVB := Lib.hid hb
  have e1 : ¬ ((500 : Int) < (l.length : Int)) := by omega
  have e2 : ¬ ((500 : Int) < (zs.length : Int)) := by omega
  obtain ⟨iV, hiV, hz0, hz1, hz2⟩ := info_parts infoV
  clear hll hbb hob hl hzw ha hb
  go_enter Try.func3, Try.ntmps3
  go_wp2_with fail; refine (lives_any _).mono ?_; rintro e w1 ⟨rfl, hb1⟩; replace HB := HB.trans (hb1.mono HB.size); clear hb1
  have k1 : (w1).cell? ⟨w.heap.size, 0, none⟩ = some (.int .i64 a) := box_cell HB 0 0 rfl rfl _ rfl
  have k2 : (w1).cell? ⟨w.heap.size, 1, none⟩ = some (.bool x) := box_cell HB 0 1 rfl rfl _ rfl
  go_wp2_with fail; refine (CA.out _).mono ?_; rintro e w1 ⟨rfl, hb1⟩; replace HB := HB.trans (hb1.mono HB.size); clear hb1
  have k3 : (w1).cell? ⟨w.heap.size + 1, 0, none⟩ = some (.int .i64 b) := box_cell HB 1 0 rfl rfl _ rfl
  have k4 : (w1).cell? ⟨w.heap.size + 1, 1, none⟩ = some (.bool y) := box_cell HB 1 1 rfl rfl _ rfl
  go_wp2_with fail; refine (CB.out _).mono ?_; rintro e w1 ⟨rfl, hb1⟩; replace HB := HB.trans (hb1.mono HB.size); clear hb1
  have hs1 : w.heap.size + 2 ≤ w1.heap.size := by have := HB.size; rw [boxes_size] at this; simpa using this
  have hbw := Lib.hid (box_base HB)
  go_wp2_with (at_builtin; go_loud (refine wpList_append_own _ rfl _ _ 22 rfl (w1.heap.size + 3) 25 iV (.agg #[.int .i64 0, .bool false]) 2 16 undV hiV hz0 hz1 hz2 rfl (by decide) (.slice (some ⟨w1.heap.size + 1 + 1 + 1, 0, none⟩) 0 0) 0 [] (by rfl) (own_none _ _ _ ?d1 (by omega)) la l.length lc (rowE l) (by rfl) (rowE_length l) ?c1 (rowE_one l) ?d2 (by omega) ?d3 ?c2))
  case c1 => exact (liesE.below HLL.out hla (below_alloc (below_alloc (below_alloc (below_alloc hbw.out _) _) _) _)).news
  case d1 => simp only [alloc_size]
  case d2 => simp only [maxLen]; omega
  case d3 => simp only [alloc_size]; omega
  case c2 =>
    intro v2 w2 hown hgrow _
    have kA : w2.heap[w.heap.size]? = some (Obj.cells #[.int .i64 (a), .bool x] 25) := (hgrow.block _ (by simp only [alloc_size]; omega) (by simp only [Value.ownBlock, ne_eq, Option.some.injEq]; omega)).trans (keepA (keepA (keepA (keepA (box_at HB 0 rfl _ rfl) _) _) _) _)
    have kB : w2.heap[w.heap.size + 1]? = some (Obj.cells #[.int .i64 (b), .bool y] 25) := (hgrow.block _ (by simp only [alloc_size]; omega) (by simp only [Value.ownBlock, ne_eq, Option.some.injEq]; omega)).trans (keepA (keepA (keepA (keepA (box_at HB 1 rfl _ rfl) _) _) _) _)
    have kG : w2.heap[w1.heap.size]? = some (Obj.cells #[.int .i64 (gH (0)), .int .u64 (gL (0)), .int .u64 (0)] 31) := (hgrow.block _ (by simp only [alloc_size]; omega) (by simp only [Value.ownBlock, ne_eq, Option.some.injEq]; omega)).trans (keepA (keepA (keepA (newB w1 _) _) _) _)
    have kH : w2.heap[w1.heap.size + 1]? = some (Obj.cells #[.int .i64 (gH (0)), .int .u64 (gL (0)), .int .u64 (0)] 31) := (hgrow.block _ (by simp only [alloc_size]; omega) (by simp only [Value.ownBlock, ne_eq, Option.some.injEq]; omega)).trans (keepA (keepA (by rw [← alloc_size]; exact newB _ _) _) _)
    have kK : w2.heap[w1.heap.size + 1 + 1]? = some (Obj.cells #[.int .i64 (gH (0)), .int .u64 (gL (0)), .int .u64 (0)] 31) := (hgrow.block _ (by simp only [alloc_size]; omega) (by simp only [Value.ownBlock, ne_eq, Option.some.injEq]; omega)).trans (keepA (by rw [← alloc_size, ← alloc_size]; exact newB _ _) _)
    have hb2 : Below w.heap.size w w2 := (below_alloc (below_alloc (below_alloc (below_alloc hbw.out _) _) _) _).grown hgrow (by simp only [alloc_size]; omega) (fun k e => by simp only [Value.ownBlock, Option.some.injEq] at e; omega)
    obtain ⟨R, cap, rfl, hR, hRs⟩ := hown.form (by omega)
    have HO : ownsE w2 (w1.heap.size + 3) R cap l := by
      unfold ownsE
      first | exact hown | simpa using hown
    clear hown hgrow hbw k1 k2 k3 k4 HB
    have ls : w1.heap.size + 3 ≤ R := hR
    clear hR
    have ST := Lib.hid (St.mk kA kB kG kH kK HO hRs hb2)
    clear kA kB kG kH kK HO hRs hb2
    generalize w1.heap.size = G at *
    clear w1
    go_wp2_with fail
    go_loopw [12, 14] (fun v i wr => ∃ (k : Nat) (m : List El) (o : Bool), k ≤ l.length ∧ i = .int .i64 k ∧ v = .bool o ∧ m.length = l.length ∧ Hid (∀ e ∈ m, I64 e.1) ∧ Hid (sm eT m = sm eT l ∧ sm eO m = sm eO l) ∧ Hid (o = true → 1 ≤ sm eO l) ∧
      Hid (St w a x b y G R cap 0 0 0 0 0 0 m wr)) (fun _ i _ => l.length - (intOf i).toNat)
    case atStart => exact ⟨0, l, false, by omega, rfl, rfl, rfl, HL, Lib.hid ⟨rfl, rfl⟩, Lib.hid (by simp), ST⟩
    case round =>
      obtain ⟨k, m, o, hk, rfl, rfl, hm, HM, HS, HO, ST⟩ := hrel
      by_cases hkl : k < l.length
      · skip
        have ekl : (k : Int) < (l.length : Int) := by omega
        have hkm : k < m.length := by omega
        have c0 := ST.out.own.cell0 k hkm
        have c1 := ST.out.own.cell1 k hkm
        by_cases hv : m[k].2 = true ∧ m[k].1 ≠ 0
        · obtain ⟨hv1, hv2⟩ := hv
          have CC := Lib.hid (fun W => check_bad m[k].1 hv2 W)
          rw [hv1] at c1
          clear hv1 hv2
          go_wp2_with fail
          refine (CC.out _).mono ?_; rintro e w1 ⟨rfl, hb1⟩
          have HF := Lib.hid (ST.out.below.trans (hb1.mono ST.out.below.size))
          clear hb1
          go_wp2_with fail
          go_ret
          exact ⟨rfl, HF.out⟩
        · have CC := Lib.hid (fun W => check_ok m[k].1 m[k].2 (by cases h : m[k].2 <;> simp_all) W)
          clear hv
          go_wp2_with fail
          refine (CC.out _).mono ?_; rintro e w1 ⟨rfl, hb1⟩
          have ST := Lib.hid (ST.out.keep hb1)
          clear hb1 c0 c1
          have c0 := ST.out.own.cell0 k hkm
          have c1 := ST.out.own.cell1 k hkm
          by_cases hkz : k < zs.length
          · have ekz : (k : Int) < (zs.length : Int) := by omega
            obtain ⟨ba, rfl⟩ : ∃ ba, ob = some ba := by cases ob with | none => exact absurd rfl (HOB.out (by omega)) | some ba => exact ⟨ba, rfl⟩
            have hbk := HBB.out ba rfl k hkz
            have cz := (ST.out.below.cell (p := ba.add k) (by unfold Addr.add; split <;> exact hbk.1)).trans hbk.2
            clear hbk
            have CP := Lib.hid (fun W => pick_any zs[k] ((l.length : Int) - (k : Int)) (HZ.out _ (List.getElem_mem hkz)) (by omega) (by omega) W)
            have HS2 : Hid (o = true ∨ m[k].2 = true → 1 ≤ sm eO l) := Lib.hid (fun h => h.elim HO.out (fun h => HS.out.2 ▸ smO_mem (List.getElem_mem hkm) h))
            clear HO
            cases o
            all_goals
              go_wp2_with fail
              refine (CP.out _).mono ?_; rintro e w2 ⟨⟨r, hr0, hr1, rfl⟩, hb1⟩
              have ST := Lib.hid (ST.out.keep hb1)
              clear hb1 c0 c1 cz CP
              obtain ⟨n, hn⟩ : ∃ n : Nat, (k : Int) + r = n := ⟨((k : Int) + r).toNat, by omega⟩
              have hnm : n < m.length := by omega
              have hkn : k ≤ n := by omega
              have enm : (n : Int) < (l.length : Int) := by omega
              go_wp2_with fail
              try simp only [hn]
              clear hn hr0 hr1
              have q1 := ST.out.own.cell0 k hkm
              have q2 := ST.out.own.cell1 k hkm
              have q3 := ST.out.own.cell0 n hnm
              have q4 := ST.out.own.cell1 n hnm
              have f1 := ST.out.own.free (k * 2)
              have f2 := ST.out.own.free (k * 2 + 1)
              have O1 := ST.out.own.put k m[n]
              have q5 := O1.cell0 n (by simpa using hnm)
              have q6 := O1.cell1 n (by simpa using hnm)
              have f3 := O1.free (n * 2)
              have f4 := O1.free (n * 2 + 1)
              clear O1
              have S4 := Lib.hid (((ST.out.put hs1 ls k m[n]).put hs1 ls n m[k]).keep (Below.refl _ _).drew)
              clear ST
              go_region
              clear q1 q2 q3 q4 q5 q6 f1 f2 f3 f4
              generalize (World.drew _) = w3 at *
              go_wp2_with fail
              go_roundw
              case rel => exact ⟨k + 1, swapE m k n hkm hnm, _, by omega, by go_num, rfl, by rw [swapE_length]; exact hm, Lib.hid (swapE_mem m k n hkm hnm _ HM.out), Lib.hid (by rw [sm_swap, sm_swap]; exact HS.out), Lib.hid (fun h => HS2.out (by simp_all)), S4⟩
              case measure => simp [intOf]; omega
          · have ekz : ¬ ((k : Int) < (zs.length : Int)) := by omega
            have HS2 : Hid (o = true ∨ m[k].2 = true → 1 ≤ sm eO l) := Lib.hid (fun h => h.elim HO.out (fun h => HS.out.2 ▸ smO_mem (List.getElem_mem hkm) h))
            clear HO
            cases o
            all_goals
              go_wp2_with fail
              go_roundw
              case rel => exact ⟨k + 1, m, _, by omega, by go_num, rfl, hm, HM, HS, Lib.hid (fun h => HS2.out (by simp_all)), ST⟩
              case measure => simp [intOf]; omega
      · have ekl : ¬ ((k : Int) < (l.length : Int)) := by omega
        go_wp2_with fail
        go_loopw [16] (fun i wr => ∃ j : Nat, j ≤ l.length ∧ i = .int .i64 j ∧
          Hid (St w a x b y G R cap (w128 (sm eT (l.take j))) (lo64 (sm eO (l.take j))) (w128 (sm eT (m.take j))) (lo64 (sm eO (m.take j))) (w128 (sm eT (m.take j))) (lo64 (sm eO (m.take j))) m wr)) (fun i _ => l.length - (intOf i).toNat)
        case atStart => exact ⟨0, by omega, rfl, ST⟩
        case round =>
          obtain ⟨j, hj, rfl, ST⟩ := hrel
          by_cases hjl : j < l.length
          · skip
            have ejl : (j : Int) < (l.length : Int) := by omega
            have hjm : j < m.length := by omega
            have CP1 := Lib.hid (fun W => put_any (w128 (sm eT (l.take j))) (lo64 (sm eO (l.take j))) l[j].1 l[j].2 (HL.out _ (List.getElem_mem hjl)) W)
            have CP2 := Lib.hid (fun W => put_any (w128 (sm eT (m.take j))) (lo64 (sm eO (m.take j))) m[j].1 m[j].2 (HM.out _ (List.getElem_mem hjm)) W)
            go_wp2_with fail
            refine wp_region_perm 12 [(0, false), (1, false), (2, false), (3, false), (4, false), (5, false), (6, false), (7, false), (8, false), (9, false), (10, false), (11, false)] (fun _ => .cells #[] 0) (Below wr.heap.size wr) (by kernel_rfl) (by kernel_rfl) (Stab.below _ _ (Nat.le_refl _)) (Below.refl _ _).drew ?_
            repeat (first | (refine wpP_q rfl rfl rfl ?_; apply Exists.intro; refine ⟨fun w' hw' => ?_, fun K hK => ?_⟩; (focus ((have q0 := ST.out.keep hw'; have q1 := cellAt q0.g (o := 0) rfl; have q2 := cellAt q0.g (o := 1) rfl; have q3 := cellAt q0.g (o := 2) rfl; have q6 := cellAt q0.h (o := 0) rfl; have q7 := cellAt q0.h (o := 1) rfl; have q8 := cellAt q0.h (o := 2) rfl; have q4 := q0.own.cell0 j hjm; have q5 := q0.own.cell1 j hjm; have q9 := (liesE.below HLL.out hla q0.below j hjl).1; have q10 := (liesE.below HLL.out hla q0.below).at1 j hjl; clear q0); go_simp; first | exact quiet_value | first | with_reducible exact quiet_enter (CP1.out _) | with_reducible exact quiet_enter (CP2.out _))); simp only [Act.put, List.setIfInBounds_toArray, List.set_cons_zero, List.set_cons_succ]; refine hK.out _ ?_; clear hK K) | (refine wpP_skip rfl rfl rfl (fun K hK => ?_); simp only [Act.put, List.setIfInBounds_toArray, List.set_cons_zero, List.set_cons_succ]; refine hK.out _ ?_; clear hK K))
            refine wpP_nil ?_
            intro w1 HB1
            have SQ := Lib.hid (ST.out.keep HB1)
            clear HB1
            have q1 := cellAt SQ.out.g (o := 0) rfl
            have q2 := cellAt SQ.out.g (o := 1) rfl
            have q3 := cellAt SQ.out.g (o := 2) rfl
            have q4 := freeAt 0 SQ.out.g
            have q5 := freeAt 1 SQ.out.g
            have q6 := freeAt 2 SQ.out.g
            have r1 := cellAt SQ.out.h (o := 0) rfl
            have r2 := cellAt SQ.out.h (o := 1) rfl
            have r3 := cellAt SQ.out.h (o := 2) rfl
            have r4 := freeAt 0 SQ.out.h
            have r5 := freeAt 1 SQ.out.h
            have r6 := freeAt 2 SQ.out.h
            clear ST
            simp only [List.drop_succ_cons, List.drop_zero]
            go_wp2_with fail
            clear q1 q2 q3 q4 q5 q6 r1 r2 r3 r4 r5 r6
            refine wp_forget (fun W => St w a x b y G R cap _ _ _ _ _ _ m W) ((SQ.out.setG hs1 ls _ _).setH hs1 ls _ _) ?_
            intro w3 S3
            replace SQ := Lib.hid S3
            clear S3 w1
            have CP3 := Lib.hid (fun W => put_any (w128 (sm eT (m.take j))) (lo64 (sm eO (m.take j))) a x HVA.out.1 W)
            have CP4 := Lib.hid (fun W => take_any (w128 (w128 (sm eT (m.take j)) + ofT a x)) (lo64 (lo64 (sm eO (m.take j)) + ofO x)) a x HVA.out.1 W)
            have CP5 := Lib.hid (fun W => put_any (w128 (w128 (w128 (sm eT (m.take j)) + ofT a x) - ofT a x)) (lo64 (lo64 (lo64 (sm eO (m.take j)) + ofO x) - ofO x)) m[j].1 m[j].2 (HM.out _ (List.getElem_mem hjm)) W)
            refine wp_region_perm 10 [(0, false), (1, false), (2, false), (3, false), (4, false), (5, false), (6, false), (7, false), (8, false), (9, false)] (fun _ => .cells #[] 0) (Below w3.heap.size w3) (by kernel_rfl) (by kernel_rfl) (Stab.below _ _ (Nat.le_refl _)) (Below.refl _ _).drew ?_
            repeat (first | (refine wpP_q rfl rfl rfl ?_; apply Exists.intro; refine ⟨fun w' hw' => ?_, fun K hK => ?_⟩; (focus ((have q0 := SQ.out.keep hw'; have q1 := cellAt q0.k (o := 0) rfl; have q2 := cellAt q0.k (o := 1) rfl; have q3 := cellAt q0.k (o := 2) rfl; have q6 := cellAt q0.a (o := 0) rfl; have q7 := cellAt q0.a (o := 1) rfl; have q4 := q0.own.cell0 j hjm; have q5 := q0.own.cell1 j hjm; clear q0); go_simp; first | exact quiet_value | first | with_reducible exact quiet_enter (CP3.out _) | with_reducible exact quiet_enter (CP4.out _) | with_reducible exact quiet_enter (CP5.out _))); simp only [Act.put, List.setIfInBounds_toArray, List.set_cons_zero, List.set_cons_succ]; refine hK.out _ ?_; clear hK K) | (refine wpP_skip rfl rfl rfl (fun K hK => ?_); simp only [Act.put, List.setIfInBounds_toArray, List.set_cons_zero, List.set_cons_succ]; refine hK.out _ ?_; clear hK K))
            refine wpP_nil ?_
            intro w1 HB1
            replace SQ := Lib.hid (SQ.out.keep HB1)
            clear HB1
            have q1 := cellAt SQ.out.k (o := 0) rfl
            have q2 := cellAt SQ.out.k (o := 1) rfl
            have q3 := cellAt SQ.out.k (o := 2) rfl
            have q4 := freeAt 0 SQ.out.k
            have q5 := freeAt 1 SQ.out.k
            have q6 := freeAt 2 SQ.out.k
            simp only [List.drop_succ_cons, List.drop_zero]
            go_wp2_with fail
            go_roundw
            case rel =>
              have r1 : w128 (w128 (sm eT (l.take j)) + ofT l[j].1 l[j].2) = w128 (sm eT (l.take (j + 1))) := by rw [w128_add, sm_take eT l j hjl]; rfl
              have r2 : lo64 (lo64 (sm eO (l.take j)) + ofO l[j].2) = lo64 (sm eO (l.take (j + 1))) := by rw [lo64_add, sm_take eO l j hjl]; rfl
              have r3 : w128 (w128 (sm eT (m.take j)) + ofT m[j].1 m[j].2) = w128 (sm eT (m.take (j + 1))) := by rw [w128_add, sm_take eT m j hjm]; rfl
              have r4 : lo64 (lo64 (sm eO (m.take j)) + ofO m[j].2) = lo64 (sm eO (m.take (j + 1))) := by rw [lo64_add, sm_take eO m j hjm]; rfl
              have r5 : w128 (w128 (w128 (w128 (sm eT (m.take j)) + ofT a x) - ofT a x) + ofT m[j].1 m[j].2) = w128 (sm eT (m.take (j + 1))) := by rw [there_back, sm_take eT m j hjm]; rfl
              have r6 : lo64 (lo64 (lo64 (lo64 (sm eO (m.take j)) + ofO x) - ofO x) + ofO m[j].2) = lo64 (sm eO (m.take (j + 1))) := by rw [there_back', sm_take eO m j hjm]; rfl
              have S9 := SQ.out.setK hs1 ls (w128 (w128 (w128 (w128 (sm eT (m.take j)) + ofT a x) - ofT a x) + ofT m[j].1 m[j].2)) (lo64 (lo64 (lo64 (lo64 (sm eO (m.take j)) + ofO x) - ofO x) + ofO m[j].2))
              rw [r1, r2, r3, r4] at S9
              refine ⟨j + 1, by omega, by go_num, ?_⟩
              rw [r5, r6] at S9
              rw [r5, r6]
              exact S9
            case measure => simp [intOf]; omega
          · skip
            have ejl : ¬ ((j : Int) < (l.length : Int)) := by omega
            have ST2 : ∃ T P : Int, I128 T ∧ T = w128 (sm eT l) ∧ P = lo64 (sm eO l) ∧ (o = true → gvO T P = true) ∧ St w a x b y G R cap T P T P T P m wr := by
              have h := ST.out
              have ej : j = l.length := by omega
              subst ej
              have q2 : m.take l.length = m := by rw [← hm]; exact List.take_length
              rw [List.take_length, q2, HS.out.1, HS.out.2] at h
              exact ⟨_, _, w128_I _, rfl, rfl, fun ho => over_value (by omega) (HO.out ho) _, h⟩
            clear ST
            obtain ⟨T, P, hT, eT', eP', hv, S2⟩ := ST2
            have SG := Lib.hid S2
            have HTP := Lib.hid (And.intro eT' eP')
            have HVL := Lib.hid hv
            have CV := Lib.hid (fun W => value_any T P hT W)
            have g1 := cellAt S2.g (o := 0) rfl
            have g2 := cellAt S2.g (o := 1) rfl
            have g3 := cellAt S2.g (o := 2) rfl
            have g4 := cellAt S2.h (o := 0) rfl
            have g5 := cellAt S2.h (o := 1) rfl
            have g6 := cellAt S2.h (o := 2) rfl
            have g7 := cellAt S2.k (o := 0) rfl
            have g8 := cellAt S2.k (o := 1) rfl
            have g9 := cellAt S2.k (o := 2) rfl
            clear eT' eP' hv S2 hT
            cases o
            case' false => go_wp2_with fail
            case' true =>
              have hvt := HVL.out rfl
              have hfd : ∀ W : World, (Instr.field 25 (.agg #[.int .i64 (gvN T P), .bool true]) 1).run Try.prog W = .ok (.bool true) W := fun _ => by kernel_rfl
              go_wp2_with fail
              refine (CV.out _).mono ?_
              rintro e w1 ⟨rfl, hb1⟩
              rw [hvt]
              replace SG := Lib.hid (SG.out.keep hb1)
              go_wp2_with fail
              clear hb1 hvt hfd
            all_goals
              clear g1 g2 g3 g4 g5 g6 g7 g8 g9
              go_loopw [17] (fun i wr => ∃ j : Nat, j ≤ l.length ∧ i = .int .i64 j ∧
                Hid (St w a x b y G R cap (w128 (sm eT l - sm eT (m.take j))) (lo64 (sm eO l - sm eO (m.take j))) T P T P m wr)) (fun i _ => l.length - (intOf i).toNat)
              case atStart => exact ⟨0, by omega, rfl, by obtain ⟨r1, r2⟩ := HTP.out; subst r1; subst r2; simpa [sm] using SG⟩
              case round =>
                obtain ⟨j3, hj3, rfl, SL⟩ := hrel
                by_cases hjl3 : j3 < l.length
                · skip
                  have ejl3 : (j3 : Int) < (l.length : Int) := by omega
                  have hjm : j3 < m.length := by omega
                  have CT := Lib.hid (fun W => take_any (w128 (sm eT l - sm eT (m.take j3))) (lo64 (sm eO l - sm eO (m.take j3))) m[j3].1 m[j3].2 (HM.out _ (List.getElem_mem hjm)) W)
                  go_wp2_with fail
                  refine wp_region_perm 6 [(0, false), (1, false), (2, false), (3, false), (4, false), (5, false)] (fun _ => .cells #[] 0) (Below wr.heap.size wr) (by kernel_rfl) (by kernel_rfl) (Stab.below _ _ (Nat.le_refl _)) (Below.refl _ _).drew ?_
                  repeat (first | (refine wpP_q rfl rfl rfl ?_; apply Exists.intro; refine ⟨fun w' hw' => ?_, fun K hK => ?_⟩; (focus ((have q0 := SL.out.keep hw'; have q1 := cellAt q0.g (o := 0) rfl; have q2 := cellAt q0.g (o := 1) rfl; have q3 := cellAt q0.g (o := 2) rfl; have q4 := q0.own.cell0 j3 hjm; have q5 := q0.own.cell1 j3 hjm; clear q0); go_simp; first | exact quiet_value | with_reducible exact quiet_enter (CT.out _))); simp only [Act.put, List.setIfInBounds_toArray, List.set_cons_zero, List.set_cons_succ]; refine hK.out _ ?_; clear hK K) | (refine wpP_skip rfl rfl rfl (fun K hK => ?_); simp only [Act.put, List.setIfInBounds_toArray, List.set_cons_zero, List.set_cons_succ]; refine hK.out _ ?_; clear hK K))
                  refine wpP_nil ?_
                  intro w1 HB1
                  have SQ := Lib.hid (SL.out.keep HB1)
                  have q1 := cellAt SQ.out.g (o := 0) rfl
                  have q2 := cellAt SQ.out.g (o := 1) rfl
                  have q3 := cellAt SQ.out.g (o := 2) rfl
                  have q4 := freeAt 0 SQ.out.g
                  have q5 := freeAt 1 SQ.out.g
                  have q6 := freeAt 2 SQ.out.g
                  clear HB1
                  simp only [List.drop_succ_cons, List.drop_zero]
                  go_wp2_with fail
                  go_roundw
                  case rel =>
                    have r1 : w128 (w128 (sm eT l - sm eT (m.take j3)) - ofT m[j3].1 m[j3].2) = w128 (sm eT l - sm eT (m.take (j3 + 1))) := by
                      rw [w128_sub, sm_take eT m j3 hjm, Int.sub_sub]; rfl
                    have r2 : lo64 (lo64 (sm eO l - sm eO (m.take j3)) - ofO m[j3].2) = lo64 (sm eO l - sm eO (m.take (j3 + 1))) := by
                      rw [lo64_sub, sm_take eO m j3 hjm, Int.sub_sub]; rfl
                    refine ⟨j3 + 1, by omega, by go_num, ?_⟩
                    rw [← r1, ← r2]
                    exact SQ.out.setG hs1 ls _ _
                  case measure => simp [intOf]; omega
                · have ejl3 : ¬ ((j3 : Int) < (l.length : Int)) := by omega
                  have S3 : St w a x b y G R cap 0 0 T P T P m wr := by
                    have h := SL.out
                    have q2 : m.take j3 = m := by rw [show j3 = m.length by omega]; exact List.take_length
                    rw [q2, HS.out.1, HS.out.2, Int.sub_self, Int.sub_self, w128_0, lo64_0] at h
                    exact h
                  clear SL SG HTP HVL CV
                  have S3h := Lib.hid S3.sa
                  have d1 := cellAt S3.g (o := 0) rfl
                  have d2 := cellAt S3.g (o := 1) rfl
                  have d3 := cellAt S3.g (o := 2) rfl
                  clear S3
                  go_wp2_with fail
                  clear d1 d2 d3
                  go_loopw [18] (fun o wr => ∃ op : Int, (op = 1 ∨ op = 3 ∨ op = 5) ∧ o = .int .i64 op ∧ Hid (SA w a x b y wr)) (fun o _ => (5 - intOf o).toNat)
                  case atStart => exact ⟨1, by omega, rfl, S3h⟩
                  case round =>
                    obtain ⟨op, hop, rfl, S5⟩ := hrel
                    have d1 := cellAt S5.out.a (o := 0) rfl
                    have d2 := cellAt S5.out.a (o := 1) rfl
                    have d3 := cellAt S5.out.b (o := 0) rfl
                    have d4 := cellAt S5.out.b (o := 1) rfl
                    by_cases h5 : op = 5
                    · subst h5
                      clear hop
                      obtain ⟨N, O, N2, O2, T1, P1, T2, P2, hO, D1, D2, E1, E2, E3⟩ := tail_facts a b x y HVA.out HVB.out
                      replace D1 := Lib.hid D1
                      replace D2 := Lib.hid D2
                      replace E1 := Lib.hid E1
                      replace E2 := Lib.hid E2
                      replace E3 := Lib.hid E3
                      have HO2 := Lib.hid hO
                      clear hO
                      go_wp2_with fail
                      refine (D1.out _).mono ?_; rintro e w5 ⟨rfl, hb5⟩
                      replace S5 := Lib.hid ((S5.out.keep hb5).box (Obj.cells #[.int .i64 (N), .bool O] 25))
                      clear d1 d2 d3 d4 hb5
                      have d3 := cellAt S5.out.b (o := 0) rfl
                      have d4 := cellAt S5.out.b (o := 1) rfl
                      have G1 := newB w5 (Obj.cells #[.int .i64 (N), .bool O] 25)
                      go_wp2_with fail
                      refine (D2.out _).mono ?_; rintro e w6 ⟨rfl, hb6⟩
                      replace S5 := Lib.hid ((S5.out.keep hb6).box (Obj.cells #[.int .i64 (N2), .bool O2] 25))
                      replace G1 := Lib.hid (keepA (keepB G1 hb6) (Obj.cells #[.int .i64 (N2), .bool O2] 25))
                      have G2 := Lib.hid (newB w6 (Obj.cells #[.int .i64 (N2), .bool O2] 25))
                      clear d3 d4 hb6
                      go_wp2_with fail
                      cases O
                      case' false =>
                        obtain ⟨r1, r2⟩ := HO2.out rfl
                        subst r1
                        subst r2
                      all_goals
                        clear HO2
                        refine wp_region_here 17 [(0, false), (1, false), (2, false), (3, false), (4, false), (5, false), (6, false), (7, false), (8, false), (9, false), (10, false), (11, false), (12, false), (13, false), (14, false), (15, false), (16, false)] (fun _ => .cells #[] 0) (by kernel_rfl) (by kernel_rfl) ?_
                        repeat (first | (refine wpP_q rfl rfl rfl ?_; apply Exists.intro; refine ⟨fun w' hw' => ?_, fun K hK => ?_⟩; (focus ((have q0 := S5.out.keep hw'; have q1 := cellAt q0.a (o := 0) rfl; have q2 := cellAt q0.a (o := 1) rfl; have q3 := cellAt q0.b (o := 0) rfl; have q4 := cellAt q0.b (o := 1) rfl; have q5 := cellAt (o := 0) (keepB G1.out hw') rfl; have q6 := cellAt (o := 1) (keepB G1.out hw') rfl; have q7 := cellAt (o := 0) (keepB G2.out hw') rfl; have q8 := cellAt (o := 1) (keepB G2.out hw') rfl; clear q0); go_simp; first | exact quiet_value | first | with_reducible exact quiet_enter (E1.out _) | with_reducible exact quiet_enter (E2.out _) | with_reducible exact quiet_enter (E3.out _))); simp only [Act.put, List.setIfInBounds_toArray, List.set_cons_zero, List.set_cons_succ]; refine hK.out _ ?_; clear hK K) | (refine wpP_skip rfl rfl rfl (fun K hK => ?_); simp only [Act.put, List.setIfInBounds_toArray, List.set_cons_zero, List.set_cons_succ]; refine hK.out _ ?_; clear hK K))
                        refine wpP_nil ?_
                        intro w7 HB7
                        have HF := Lib.hid (S5.out.keep HB7).below
                        clear HB7
                        simp only [List.drop_succ_cons, List.drop_zero]
                        go_wp2_with fail
                        go_ret
                        exact ⟨rfl, HF.out⟩
                    · have hop3 : op = 1 ∨ op = 3 := by omega
                      obtain ⟨N, O, D1, D2⟩ := comm_facts op a b x y hop3 HVA.out HVB.out
                      replace D1 := Lib.hid D1
                      replace D2 := Lib.hid D2
                      have hop1 : 1 ≤ op := by omega
                      have hop2 : op ≤ 3 := by omega
                      clear h5 hop
                      have HOP := Lib.hid hop3
                      clear hop3
                      go_wp2_with fail
                      refine (D1.out _).mono ?_; rintro e w5 ⟨rfl, hb5⟩
                      replace S5 := Lib.hid ((S5.out.keep hb5).box (Obj.cells #[.int .i64 (N), .bool O] 25))
                      clear d1 d2 d3 d4 hb5
                      have d1 := cellAt S5.out.a (o := 0) rfl
                      have d2 := cellAt S5.out.a (o := 1) rfl
                      have d3 := cellAt S5.out.b (o := 0) rfl
                      have d4 := cellAt S5.out.b (o := 1) rfl
                      have G1 := newB w5 (Obj.cells #[.int .i64 (N), .bool O] 25)
                      go_wp2_with fail
                      refine (D2.out _).mono ?_; rintro e w6 ⟨rfl, hb6⟩
                      replace S5 := Lib.hid ((S5.out.keep hb6).box (Obj.cells #[.int .i64 (N), .bool O] 25))
                      replace G1 := keepA (keepB G1 hb6) (Obj.cells #[.int .i64 (N), .bool O] 25)
                      have G2 := newB w6 (Obj.cells #[.int .i64 (N), .bool O] 25)
                      clear d1 d2 d3 d4 hb6
                      have d1 := cellAt G1 (o := 0) rfl
                      have d2 := cellAt G1 (o := 1) rfl
                      have d3 := cellAt G2 (o := 0) rfl
                      have d4 := cellAt G2 (o := 1) rfl
                      clear G1 G2
                      go_wp2_with fail
                      go_roundw
                      case rel => exact ⟨op + 2, by have := HOP.out; omega, by go_num, S5⟩
                      case measure => simp [intOf]; omega
end Go.Proofs.Ytfiinceogenlmaa
