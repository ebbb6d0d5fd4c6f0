/- SlideSame, walked: the loop. -/
import Derived.Test.YtbhkgnhgecchcaaSSW
import Derived.Deep.CutRange
namespace Go.Proofs.Ytbhkgnhgecchcaa
open Go.RowKit
set_option maxHeartbeats 8000000 in
set_option maxRecDepth 100000 in
theorem same_any (fn span : Int) (A : Option Addr) (l : List ActV) (cap : Nat) (at_ : Int) (w : World) (hA : RAct w A l) (hl : ∀ a ∈ l, In64 a.2.1 ∧ In64 a.2.2) (hat : In64 at_) :
    Calls Try.prog 7 #[.int .i64 fn, .int .i64 span, .slice A l.length cap, .int .i64 at_] w fun e w' => e = .returned (.bool true) ∧ Below w.heap.size w w' := by
  have HA := Lib.hid hA
  have HLL := Lib.hid hl
  have HAT := Lib.hid hat
  clear hA hl hat
  go_enter Try.func7, Try.ntmps7
  go_wp2_with fail
  refine (lives_any w).mono ?_
  rintro e w1 ⟨rfl, hb⟩
  have HB := Lib.hid hb
  clear hb
  go_wp2_with fail
  refine (snew_any fn span w1).mono ?_
  intro e w2 hnew
  rcases Classical.em (okNew fn span) with hk | hk
  case inr =>
    have hh : e = .returned (.tuple #[.pointer none, .int .i64 2]) ∧ Below w1.heap.size w1 w2 := hnew.elim (fun h => absurd h.1 hk) (fun h => h.2)
    obtain ⟨rfl, hb⟩ := hh
    replace HB := Lib.hid (HB.out.trans (hb.mono HB.out.size))
    clear hb hnew
    go_wp2_with fail
    go_ret
    exact ⟨rfl, HB.out⟩
  obtain ⟨s, F, he, hs, hb⟩ : ∃ s F, e = .returned (.tuple #[.pointer (some ⟨s, 0, none⟩), .int .i64 0]) ∧ SlB w2 w1.heap.size s fn span ⟨0, [], 0⟩ F ∧ Below w1.heap.size w1 w2 := by
    rcases hnew with ⟨_, s, he, hs, hb⟩ | ⟨hn, _⟩
    · exact ⟨s, fun k => w1.heap.size ≤ k ∧ k < w2.heap.size, he, ⟨hs.weak (fun k hk h => ⟨h, hk⟩), fun k hk => hk.1, fun k hk => hk.2⟩, hb⟩
    · exact absurd hk hn
  subst he
  have HS : Hid (1 ≤ span ∧ span ≤ 1073741824) := Lib.hid hk.2
  have HK := Lib.hid hk
  have HT : Hid (Sam w2 w1.heap.size fn span s ⟨0, [], 0⟩ (.slice none 0 0) []) := Lib.hid ⟨F, hs, World.ownsRow_nil _ _ _ _, fun g e => by cases e⟩
  have HB1 := Lib.hid HB.out.size
  replace HB := Lib.hid (HB.out.trans (hb.mono HB.out.size))
  clear hs hb hnew hk
  by_cases h1 : (300 : Int) < (l.length : Int)
  · go_wp2_with fail
    go_ret
    exact ⟨rfl, HB.out⟩
  have HL : Hid (l.length ≤ 300) := Lib.hid (by omega)
  go_wp2_with fail
  refine (pick_any at_ 300 HAT.out (by omega) _).mono ?_
  rintro e w3 ⟨kk, rfl, hk1, hk2, rfl⟩
  have HKK := Lib.hid (And.intro hk1 hk2)
  clear hk1 hk2
  go_wp2_with fail
  go_loopw [14, 13, 12, 9] (fun y tv av sv wr => ∃ (i : Nat) (t : Int) (σ : Slst) (all : Value) (L : List Pt) (s : Nat), i ≤ l.length ∧ y = .int .i64 i ∧ tv = .int .i64 t ∧ all = av ∧ sv = .pointer (some ⟨s, 0, none⟩) ∧ Hid (SmI span t i σ L) ∧ Hid (Fine σ i) ∧ Hid (Sam wr w1.heap.size fn span s σ all L) ∧ Hid (Below w.heap.size w wr)) (fun y _ _ _ _ => l.length - (intOf y).toNat)
  case atStart => exact ⟨0, 0, ⟨0, [], 0⟩, _, [], s, Nat.zero_le _, rfl, rfl, rfl, rfl, Lib.hid (SmI.zero _), Lib.hid Fine.zero, HT, HB⟩
  case round =>
    obtain ⟨i, t, σ, all, L, s, hi, rfl, rfl, rfl, rfl, HI, HF, HT, HBW⟩ := hrel
    clear HB
    by_cases h0 : i < l.length
    · have e0 : (i : Int) < (l.length : Int) := by omega
      have HX0 := Lib.hid h0
      have HCL : Hid (∀ W, Below w.heap.size w W → ∃ ad, A = some ad ∧ W.cell? (ad.add (i * 3)) = some (.bool l[i].1) ∧ W.cell? { block := (ad.add (i * 3)).block, off := (ad.add (i * 3)).off + 1 } = some (.int .i64 l[i].2.1) ∧ W.cell? { block := (ad.add (i * 3)).block, off := (ad.add (i * 3)).off + 2 } = some (.int .i64 l[i].2.2)) := Lib.hid (fun W hb => by
        obtain ⟨ad', e, _, h⟩ := HA.out.below hb (by omega)
        exact ⟨ad', e, h.at_ i h0⟩)
      obtain ⟨ad, rfl, _⟩ := HCL.out _ HBW.out
      replace HCL : Hid (∀ W, Below w.heap.size w W → W.cell? (ad.add (i * 3)) = some (.bool l[i].1) ∧ W.cell? { block := (ad.add (i * 3)).block, off := (ad.add (i * 3)).off + 1 } = some (.int .i64 l[i].2.1) ∧ W.cell? { block := (ad.add (i * 3)).block, off := (ad.add (i * 3)).off + 2 } = some (.int .i64 l[i].2.2)) := Lib.hid (fun W hb => by
        obtain ⟨ad', e, h⟩ := HCL.out W hb
        cases e
        exact h)
      obtain ⟨n1, n2⟩ := HLL.out l[i] (List.getElem_mem h0)
      generalize l[i].1 = isgo at *
      generalize l[i].2.1 = by_ at *
      generalize l[i].2.2 = n at *
      have HN := Lib.hid n2
      have hk9 : (i : Int) + 1 ≤ 1099511627776 := by have := HL.out; omega
      clear n1 n2
      go_upto_if 54 with fail
      go_cut [9] from 46 to 155 (fun sv wx => ∃ (s' : Nat) (σ' : Slst), sv = .pointer (some ⟨s', 0, none⟩) ∧ Hid (SmI span t i σ' L) ∧ Hid (Fine σ' i) ∧ Hid (Sam wx w1.heap.size fn span s' σ' all L) ∧ Hid (Below w.heap.size w wx))
      case first =>
        by_cases hik : (i : Int) = kk
        case neg =>
          have hik2 : ((i : Int) == kk) = false := beq_eq_false_iff_ne.2 hik
          have hik3 : decide ((i : Int) = kk) = false := decide_eq_false hik
          clear hik
          first | rw [hik2] | rw [hik3]
          go_wp2_with fail
          go_meet
          exact ⟨s, σ, rfl, HI, HF, HT, HBW⟩
        case pos =>
          have hik2 : ((i : Int) == kk) = true := beq_iff_eq.2 hik
          have hik3 : decide ((i : Int) = kk) = true := decide_eq_true hik
          clear hik
          have HLM : Hid (σ.pts.length ≤ 300) := Lib.hid (by have := HF.out.len; have := HL.out; have := HX0.out; omega)
          obtain ⟨bb, hbb⟩ : ∃ bb, slB fn span σ.time σ.pts = bb := ⟨_, rfl⟩
          have CB := Lib.hid (HT.out.bytes HF.out (by have := HL.out; have := HX0.out; omega) HK.out)
          rw [hbb] at CB
          have HBL : Hid (bb.length ≤ 1000000) := Lib.hid (by rw [← hbb]; exact slB_most HK.out HF.out.fit.t0 HF.out.fit.t1 HF.out.fit.sane (by have := HLM.out; omega))
          have HRD : Hid (rdSl bb.length bb = some (fn, span, σ.time, σ.pts)) := Lib.hid (by
            rw [← hbb]
            refine rdSl_back HK.out HF.out.fit.t0 HF.out.fit.t1 HF.out.fit.sane (fun p hp => ⟨?_, HF.out.fit.upto p hp⟩) (slB_more _ _ _ _)
            rw [HI.out.pts] at hp
            have := (List.mem_filter.1 hp).2
            rw [HI.out.time]
            simpa using this)
          clear hbb
          first | rw [hik2] | rw [hik3]
          go_wp2_with fail
          refine CB.out.mono ?_
          rintro e w5 ⟨A5, c5, rfl, hr5, hb5⟩
          have CR := Lib.hid (sread_any A5 c5 bb w5 hr5 HBL.out)
          rw [HRD.out] at CR
          replace HT := Lib.hid (HT.out.below hb5)
          replace HBW := Lib.hid (HBW.out.trans (hb5.mono HBW.out.size))
          clear hr5 hb5 CB
          go_wp2_with fail
          refine CR.out.mono ?_
          rintro e w6 ⟨hb6, ⟨hno, _⟩ | ⟨fn', span', t', P', s', G, hso, rfl, hs'⟩⟩
          case inl => cases hno
          case inr =>
            simp only [Option.some.injEq, Prod.mk.injEq] at hso
            obtain ⟨rfl, rfl, rfl, rfl⟩ := hso
            have HT6 := Lib.hid (HT.out.other hb6 (Nat.le_refl _) hs')
            have HB6 := Lib.hid (HBW.out.trans (hb6.mono HBW.out.size))
            clear hb6 hs' CR
            go_wp2_with fail
            go_meet
            exact ⟨s', ⟨σ.time, σ.pts, σ.pts.length⟩, rfl, Lib.hid ⟨HI.out.time, HI.out.u0, HI.out.u1, HI.out.sane, HI.out.upto, HI.out.len, HI.out.pts⟩, Lib.hid ⟨⟨HF.out.fit.sane, HF.out.fit.upto, HF.out.fit.t0, HF.out.fit.t1⟩, HF.out.len, HF.out.len⟩, HT6, HB6⟩
      case rest =>
        obtain ⟨s', σ', rfl, HI', HF', HT', HBW'⟩ := hcut
        clear HI HF HT HBW
        obtain ⟨c0, c1, c2⟩ := HCL.out _ HBW'.out
        go_upto_region 17 with fail
        go_cut [73] from 46 to 155 (fun v wx => v = .bool (decide (by_ < 1 ∨ 1000 < by_)) ∧ wx = wc)
        case first =>
          by_cases hb1 : by_ < 1
          · have hd : decide (by_ < 1 ∨ 1000 < by_) = true := decide_eq_true (.inl hb1)
            go_wp2_with fail
            go_meet
            exact ⟨by rw [hd], rfl⟩
          · by_cases hb2 : 1000 < by_
            · have hd : decide (by_ < 1 ∨ 1000 < by_) = true := decide_eq_true (.inr hb2)
              go_wp2_with fail
              go_meet
              exact ⟨by rw [hd], rfl⟩
            · have hd : decide (by_ < 1 ∨ 1000 < by_) = false := decide_eq_false (by omega)
              go_wp2_with fail
              go_meet
              exact ⟨by rw [hd], rfl⟩
        case rest =>
          obtain ⟨rfl, rfl⟩ := hcut
          go_upto_if 73 with fail
          go_cut [15] from 46 to 155 (fun v wx => ∃ bv : Int, 1 ≤ bv ∧ bv ≤ 1000 ∧ v = .int .i64 bv ∧ Below wc.heap.size wc wx)
          case first =>
            cases hd : decide (by_ < 1 ∨ 1000 < by_)
            case false =>
              have hbr : ¬ (by_ < 1 ∨ 1000 < by_) := of_decide_eq_false hd
              have HBR := Lib.hid hbr
              clear hbr
              go_wp2_with fail
              go_meet
              exact ⟨by_, by have := HBR.out; omega, by have := HBR.out; omega, rfl, Below.refl _ _⟩
            case true =>
              go_wp2_with fail
              go_meet
              exact ⟨1, by omega, by omega, rfl, Below.refl _ _⟩
          case rest =>
            obtain ⟨bv, hbv1, hbv2, rfl, hb9⟩ := hcut
            replace HT' := Lib.hid (HT'.out.below hb9)
            replace HBW' := Lib.hid (HBW'.out.trans (hb9.mono HBW'.out.size))
            obtain ⟨u, hu⟩ : ∃ u, u = t + bv := ⟨_, rfl⟩
            have HU : Hid (t < u ∧ u ≤ t + 1000) := Lib.hid (by omega)
            have hw : IntKind.i64.wrap (t + bv) = u := by have h1 := HI'.out.u0; have h2 := HI'.out.u1; have h3 := HL.out; have h4 := HX0.out; have h5 := HU.out; rw [IntKind.wrap_i64]; omega
            clear hu hbv1 hbv2 c0 c1 c2 hb9
            obtain ⟨c0, c1, c2⟩ := HCL.out _ HBW'.out
            go_upto_if 81 with fail
            go_cut [10, 12] from 46 to 155 (fun ev av wx => ev = .int .i64 0 ∧ ∃ (σ2 : Slst) (all2 : Value) (L2 : List Pt), all2 = av ∧ Hid (SmI span u (i + 1) σ2 L2) ∧ Hid (Fine σ2 (i + 1)) ∧ Hid (Sam wx w1.heap.size fn span s' σ2 all2 L2) ∧ Hid (Below w.heap.size w wx))
            case first =>
              have U1 : Hid (1 ≤ u ∧ u ≤ 1099511627776 ∧ σ'.time < u) := Lib.hid (by have := HI'.out.u0; have := HU.out; have := HI'.out.u1; have := HL.out; have := HX0.out; have := HI'.out.time; omega)
              have HL9 : Hid (i ≤ 300) := Lib.hid (by have := HL.out; have := HX0.out; omega)
              cases isgo
              case false =>
                go_wp2_with fail
                refine (HT'.out.push HF'.out (by have := HL9.out; omega) HS.out u n HN.out U1.out.1 U1.out.2.1 U1.out.2.2).mono ?_
                rintro e w6 ⟨rfl, ht, hb⟩
                have HI1 := Lib.hid (HI'.out.push HF'.out (by have := HL9.out; omega) HU.out.1 HU.out.2 HN.out (by have := HL9.out; omega))
                have HF1 := Lib.hid (HF'.out.aftP (span := span) (t := u) (n := n) (by have := HL9.out; omega) HN.out U1.out.1 U1.out.2.1 U1.out.2.2)
                have HT6 := Lib.hid ht
                have HB6 := Lib.hid (HBW'.out.trans (hb.mono HB1.out))
                clear ht hb c0 c1 c2
                obtain ⟨c0, c1, c2⟩ := HCL.out _ HB6.out
                have hbx := below_alloc (Below.refl w6.heap.size w6) (.cells #[.int .i64 u, .int .i64 n, .bool false] 54)
                have HTb := Lib.hid (HT6.out.below hbx)
                have HBb := Lib.hid (HB6.out.trans (hbx.mono HB6.out.size))
                have HNW := Lib.hid (rpt_new w6 (u, n))
                have HLb : Hid (L.length + 1 ≤ 1099511627776) := Lib.hid (by have := HI'.out.len; have := HL9.out; omega)
                have HZb := Lib.hid HTb.out.le
                clear hbx
                go_wp2_with (at_builtin; go_loud (refine wpL_pts rfl _ _ rfl w1.heap.size _ L rfl HTb.out.all_ _ _ _ [(u, n)] rfl rfl HNW.out HLb.out ?o4 ?o5))
                case o4 => exact HZb.out
                case o5 =>
                  intro all' w7 ho hg hv
                  have HT7 : Hid (Sam w7 w1.heap.size fn span s' (aftP span σ' u n) all' (L ++ [(u, n)])) := Lib.hid (HTb.out.app (by rw [List.length_append]; exact ho) hg (hv.imp id (fun h => by rw [alloc_size]; exact h)))
                  have HB7 := Lib.hid (HBb.out.trans ((only_grown hg).below (fun k hk => (World.ownsRow.lt HTb.out.all_ k hk).1) HTb.out.le |>.mono HB1.out))
                  clear ho hg hv c0 c1 c2
                  go_wp2_with fail
                  go_meet
                  exact ⟨rfl, _, _, _, rfl, HI1, HF1, HT7, HB7⟩
              case true =>
                go_wp2_with fail
                refine (HT'.out.go HF'.out (by have := HL9.out; omega) HS.out u (by have := U1.out.1; omega) U1.out.2.1 (Int.le_of_lt U1.out.2.2)).mono ?_
                rintro e w6 ⟨rfl, ht, hb⟩
                have HI1 := Lib.hid (HI'.out.go HF'.out HU.out.1 HU.out.2)
                have HF1 := Lib.hid ((HF'.out.aftG (span := span) (t := u) (by have := U1.out.1; omega) U1.out.2.1 (Int.le_of_lt U1.out.2.2)).le (Nat.le_succ i))
                have HT6 := Lib.hid ht
                have HB6 := Lib.hid (HBW'.out.trans (hb.mono HB1.out))
                clear ht hb c0 c1 c2
                go_wp2_with fail
                go_meet
                exact ⟨rfl, _, _, _, rfl, HI1, HF1, HT6, HB6⟩
            case rest =>
              obtain ⟨rfl, σ2, all2, L2, rfl, HI2, HF2, HT2, HB2⟩ := hcut
              clear HI' HF' HT' HBW' hw c0 c1 c2
              obtain ⟨A8, c8, rfl, hr8, hf8⟩ := own_pts HT2.out.all_
              have HR8 := Lib.hid hr8
              have HAd : Hid (0 < L2.length → ∃ g o, A8 = some ⟨g, o, none⟩) := Lib.hid (fun h0 => by
                obtain ⟨⟨g, o, sp⟩, e, _⟩ := hr8.2 h0
                have := hf8 _ e
                simp only at this
                exact ⟨g, o, by rw [e, this]⟩)
              obtain ⟨bd, hbd⟩ : ∃ bd, u - span = bd := ⟨_, rfl⟩
              have hws : IntKind.i64.wrap (u - span) = bd := by have h1 := HI2.out.u0; have h2 := HI2.out.u1; have h3 := HS.out; have h4 := HL.out; have h5 := HX0.out; rw [IntKind.wrap_i64]; omega
              have HPT : Hid (σ2.pts = aftB bd L2) := Lib.hid (by rw [← hbd]; exact HI2.out.pts)
              have HLL2 : Hid (L2.length ≤ 301) := Lib.hid (by have := HI2.out.len; have := HL.out; have := HX0.out; omega)
              have HW0 := Lib.hid (Below.refl wc.heap.size wc)
              clear hr8 hf8 hbd
              go_wp2_with fail
              go_loopw [17, 16] (fun y iv w2 => ∃ (j : Nat) (R : List Pt) (v : Value), j ≤ L2.length ∧ y = .int .i64 j ∧ v = iv ∧ Hid (R = aftB bd (L2.take j)) ∧ Hid (w2.ownsRow wc.heap.size 54 3 v R.length (pcs R)) ∧ Hid (Below wc.heap.size wc w2)) (fun y _ _ => L2.length - (intOf y).toNat)
              case atStart => exact ⟨0, [], _, Nat.zero_le _, rfl, rfl, Lib.hid (by simp [aftB]), Lib.hid (World.ownsRow_nil _ _ _ _), HW0⟩
              case round =>
                obtain ⟨j, R, v, hj, rfl, rfl, HRR, HOR, HBj⟩ := hrel
                by_cases hj0 : j < L2.length
                · have ej : (j : Int) < (L2.length : Int) := by omega
                  have HJ0 := Lib.hid hj0
                  obtain ⟨g, o, rfl⟩ := HAd.out (by omega)
                  obtain ⟨hg, hp⟩ := RPt.pt HR8.out hj0
                  have HTK : Hid (L2.take (j + 1) = L2.take j ++ [L2[j]]) := Lib.hid (List.take_succ_eq_append_getElem hj0)
                  generalize L2[j] = p at *
                  obtain ⟨xt, xn⟩ := p
                  have HPt := Lib.hid hp
                  have HGL := Lib.hid hg
                  have hj9 : (j : Int) + 1 ≤ 1099511627776 := by have := HLL2.out; omega
                  obtain ⟨p0, p1, p2⟩ := hp.below hg HBj.out
                  clear hp hg
                  cases hd : decide (bd < xt)
                  case false =>
                    have HD9 := Lib.hid hd
                    go_wp2_with fail
                    go_roundw
                    case rel => exact ⟨j + 1, R, v, by have := HJ0.out; omega, by have := HJ0.out; have := HLL2.out; go_num, rfl, Lib.hid (by rw [HTK.out]; unfold aftB at *; rw [List.filter_append, ← HRR.out]; simp [HD9.out]), HOR, HBj⟩
                    case measure =>
                      have h1 := HJ0.out
                      have h3 := HLL2.out
                      simp [intOf]; omega
                  case true =>
                    have HD9 := Lib.hid hd
                    have HOb := Lib.hid (World.ownsRow.alloc HOR.out (.cells #[.int .i64 xt, .int .i64 xn, .bool false] 54))
                    have HBb := Lib.hid (below_alloc HBj.out (.cells #[.int .i64 xt, .int .i64 xn, .bool false] 54))
                    have HNW := Lib.hid (rpt_new wr (xt, xn))
                    have HRL9 : Hid (R.length + 1 ≤ 1099511627776) := Lib.hid (by
                      have h1 : R.length ≤ (L2.take j).length := by rw [HRR.out]; exact List.length_filter_le _ _
                      have := HLL2.out
                      rw [List.length_take] at h1
                      omega)
                    go_wp2_with (at_builtin; go_loud (refine wpL_pts rfl _ _ rfl wc.heap.size _ R rfl HOb.out _ _ _ [(xt, xn)] rfl rfl HNW.out HRL9.out ?o4 ?o5))
                    case o4 => have h9 := HBb.out.size; rwa [alloc_size] at h9
                    case o5 =>
                      intro v' w8 HO' hg _
                      have HB8 := Lib.hid (HBb.out.grown hg HBb.out.size (fun k e => (World.ownsRow.lt HOb.out k e).1))
                      have HO8 := Lib.hid HO'
                      clear hg HO' p0 p1 p2
                      go_wp2_with fail
                      go_roundw
                      case rel => exact ⟨j + 1, R ++ [(xt, xn)], v', by have := HJ0.out; omega, by have := HJ0.out; have := HLL2.out; go_num, rfl, Lib.hid (by rw [HTK.out]; unfold aftB at *; rw [List.filter_append, ← HRR.out]; simp [HD9.out]), Lib.hid (by rw [List.length_append]; exact HO8.out), HB8⟩
                      case measure =>
                        have h1 := HJ0.out
                        have h3 := HLL2.out
                        simp [intOf]; omega
                · have ej : ¬ (j : Int) < (L2.length : Int) := by omega
                  have HRP : Hid (R = σ2.pts) := Lib.hid (by rw [HRR.out, HPT.out, List.take_of_length_le (by omega)])
                  have HT3 := Lib.hid (HT2.out.below HBj.out)
                  have HB3 := Lib.hid (HB2.out.trans (HBj.out.mono HB2.out.size))
                  have hRn : ∀ p ∈ R, In64 p.2 := by rw [HRP.out]; exact HF2.out.fit.sane.nums
                  have hRl : R.length ≤ 301 := by rw [HRP.out]; have := HF2.out.len; have := HL.out; have := HX0.out; omega
                  obtain ⟨A9, c9, rfl, hcw⟩ := rwin_own HOR.out fn HK.out.1 hRn (by omega)
                  have CW := Lib.hid hcw
                  have HLR : Hid (R.length = σ2.pts.length) := Lib.hid (by rw [HRP.out])
                  obtain ⟨vn, vo, vi, hv⟩ := vvV_form fn σ2.pts
                  have HV := Lib.hid hv
                  have HVR : Hid (vvV fn R = .tuple #[.agg #[.int .i64 vn, .bool vo], .bool vi]) := Lib.hid (by rw [HRP.out]; exact hv)
                  rw [HVR.out] at CW
                  clear hcw hRn hRl hv HT2 HB2 hws
                  go_wp2_with fail
                  refine (HT3.out.value HF2.out (by have := HL.out; have := HX0.out; omega) _ HV.out).mono ?_
                  rintro e w10 ⟨rfl, hb⟩
                  have HX := Lib.hid (newB w10 (.cells #[.int .i64 vn, .bool vo] 25))
                  have hb2 := hb.trans ((below_alloc (Below.refl w10.heap.size w10) (.cells #[.int .i64 vn, .bool vo] 25)).mono hb.size)
                  replace HB3 := Lib.hid (HB3.out.trans (hb2.mono HB3.out.size))
                  replace HT3 := Lib.hid (HT3.out.below hb2)
                  have HBW2 := Lib.hid hb2
                  clear hb hb2
                  go_wp2_with fail
                  refine (CW.out _ HBW2.out).mono ?_
                  rintro e w11 ⟨rfl, hb⟩
                  have HY := Lib.hid (newB w11 (.cells #[.int .i64 vn, .bool vo] 25))
                  have hb2 := hb.trans ((below_alloc (Below.refl w11.heap.size w11) (.cells #[.int .i64 vn, .bool vo] 25)).mono hb.size)
                  replace HB3 := Lib.hid (HB3.out.trans (hb2.mono HB3.out.size))
                  replace HT3 := Lib.hid (HT3.out.below hb2)
                  replace HX := Lib.hid (keepB HX.out hb2)
                  clear hb hb2 HBW2 CW
                  have x0 := cellAt (o := 0) HX.out rfl
                  have x1 := cellAt (o := 1) HX.out rfl
                  have y0 := cellAt (o := 0) HY.out rfl
                  have y1 := cellAt (o := 1) HY.out rfl
                  rw [HLR.out]
                  go_wp2_with fail
                  refine HT3.out.len.mono ?_
                  rintro e w12 ⟨rfl, hb⟩
                  replace HB3 := Lib.hid (HB3.out.trans (hb.mono HB3.out.size))
                  replace HT3 := Lib.hid (HT3.out.below hb)
                  clear hb x0 x1 y0 y1
                  go_wp2_with fail
                  go_roundw
                  case rel => exact ⟨i + 1, u, σ2, _, L2, s', HX0.out, by go_num, rfl, rfl, rfl, HI2, HF2, HT3, HB3⟩
                  case measure =>
                    have h1 := HX0.out
                    have h3 := HL.out
                    simp [intOf]; omega
    · have e0 : ¬ (i : Int) < (l.length : Int) := by omega
      go_wp2_with fail
      go_ret
      exact ⟨rfl, HBW.out⟩
end Go.Proofs.Ytbhkgnhgecchcaa
