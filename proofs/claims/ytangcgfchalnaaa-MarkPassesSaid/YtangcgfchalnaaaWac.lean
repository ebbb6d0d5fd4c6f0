/- Parts of the proof: MpW. -/
import Derived.Test.YtangcgfchalnaaaWab
import Derived.Test.YtangcgfchalnaaaYaz
import Derived.Test.YtangcgfchalnaaaYam
import Derived.Test.YtangcgfchalnaaaYad
import Derived.Deep.CutRange
/- MarkPasses, walked. -/
namespace Go.Proofs.Ytangcgfchalnaaa
open Go.RowKit
abbrev intV (L : List Int) : List Value := L.map (fun x => Value.int .i64 x)
/-- What stays, in memory: the intake, the samples that were taken, those that Next told. -/
def PasW (w0 : World) (i : Nat) (la : Int) (k : Nat) (vt vo : Value) (g : Int) (W : World) : Prop := ∃ pa S nt X, LM w0 (Star (IntO i la g pa S) (Star (TookO vt nt) (OutO vo X))) W ∧ PasI la g pa S k nt ∧ X.map smC = (btE 0 pa (ptsL S)).map (smE S) ∧ nt ≤ k
section
variable {w : World} {A N : Option Addr} {n c p q : Nat} {la : Int} {X : List Sm} {L : List Int}
set_option maxHeartbeats 8000000 in
set_option maxRecDepth 100000 in
theorem mpasses_any (h : RdSm w A n X) (hN : Reads w w.heap.size 1 N p (intV L)) :
    Calls Try.prog 4 #[.int .i64 la, .slice A n c, .slice N p q] w fun e w' => e = .returned (.bool true) ∧ Below w.heap.size w w' := by
  have HX := Lib.hid h
  have HNs := Lib.hid hN
  clear h hN
  go_enter Try.func4, Try.ntmps4
  go_wp2_with fail
  refine (lives_any _).mono ?_
  rintro e w1 ⟨rfl, hb1⟩
  have HB1 := Lib.hid hb1
  clear hb1
  have CL := Lib.hid (lightS_any (c := c) 80 (HX.out.below HB1.out) (by decide) (P := n ≤ 80 ∧ ∀ x ∈ X, smallS x.1 x.2.1.2.2) (fun h1 h2 => ⟨by rw [← HX.out.1]; exact h1, h2⟩))
  rw [show ((80 : Nat) : Int) = 80 from rfl] at CL
  go_wp2_with fail
  refine CL.out.mono ?_
  rintro e w2 ⟨b, rfl, hq, hb2⟩
  have HB2 := Lib.hid (HB1.out.trans (hb2.mono HB1.out.size))
  have HQ := Lib.hid hq
  clear hq hb2 CL HB1
  cases b
  · go_wp2_with fail
    go_ret
    exact ⟨rfl, HB2.out⟩
  obtain ⟨hn80, hsm⟩ := HQ.out rfl
  have HSm := Lib.hid hsm
  clear hsm HQ
  by_cases g1 : 80 < p
  · have g1I : (80 : Int) < (p : Int) := by omega
    go_wp2_with fail
    go_ret
    exact ⟨rfl, HB2.out⟩
  have g1I : ¬ (80 : Int) < (p : Int) := by omega
  by_cases hla : 0 ≤ la ∧ la ≤ 1099511627776
  · have HLa := Lib.hid hla
    have C1 := Lib.hid (mnew_any (la := la) w2 hla.1 hla.2)
    clear hla
    go_wp2_with fail
    refine C1.out.mono ?_
    rintro e w3 ⟨i, rfl, h1, h2⟩
    have HS1 := Lib.hid (LM.first (w0 := w) HB2.out h2 h1 (fun _ h => h))
    clear h1 h2 C1
    have HW3 : Hid (PasW w i la 0 (.slice none 0 0) (.slice none 0 0) 0 w3) := Lib.hid ⟨0, [], 0, [], HS1.out.mono (fun F h => ⟨F, fun _ => False, h, ⟨fun _ => False, fun _ => False, TookO.nil, OutO.nil, fun _ h => h.1, fun _ h => h, fun _ h => h⟩, fun _ h => h.2, fun _ h => h, fun _ h => h.elim⟩), PasI.nil HLa.out.1, by rw [btE_none]; rfl, Nat.le_refl _⟩
    clear HS1
    go_wp2_with fail
    go_loopw [9, 10, 11, 12] (fun vt vo vg vk wr => ∃ (k nt ct no co : Nat) (At Ao : Option Addr) (g : Int), vt = .slice At nt ct ∧ vo = .slice Ao no co ∧ vg = .int .i64 g ∧ vk = .int .i64 (k : Int) ∧ k ≤ n ∧ Hid (PasW w i la k (.slice At nt ct) (.slice Ao no co) g wr)) (fun _ _ _ v _ => n - (intOf v).toNat)
    case atStart => exact ⟨0, 0, 0, 0, 0, none, none, 0, rfl, rfl, rfl, rfl, Nat.zero_le _, HW3⟩
    case round =>
      obtain ⟨k, nt, ct, no, co, At, Ao, g, rfl, rfl, rfl, rfl, hk, HW⟩ := hrel
      by_cases hkn : k < n
      · have hkI : (k : Int) < (n : Int) := by omega
        obtain ⟨pa, S, nt', Xo, hLM, hPas, htold, hntk⟩ := HW.out
        obtain rfl : nt = nt' := by
          obtain ⟨F, ⟨_, G, _, ⟨F1, _, ⟨xs, hr⟩, _⟩, _⟩, _⟩ := hLM.mem
          obtain ⟨_, _, e, _⟩ := hr.form
          injection e with _ e2 _
        have hXo : Xo.length = no := by
          obtain ⟨F, ⟨_, G, _, ⟨_, F2, _, hr, _⟩, _⟩, _⟩ := hLM.mem
          obtain ⟨_, _, e, _⟩ := hr.rd
          injection e with _ e2 _
          exact e2.symm
        have HS := Lib.hid hLM
        obtain ⟨ad, hA, hadl⟩ := HX.out.some_ (by omega)
        subst hA
        have hkX : k < X.length := by rw [HX.out.1]; exact hkn
        have HSx := Lib.hid (HSm.out _ (List.getElem_mem hkX))
        have HRl := Lib.hid (HX.out.2.2 _ (List.getElem_mem hkX))
        have HCs := Lib.hid (fun W (hb : Below w.heap.size w W) => (HX.out.below hb).at_ hkX)
        obtain ⟨⟨m, ⟨Al, cl, Ls⟩, tm, x⟩, hx⟩ : ∃ x, X[k] = x := ⟨_, rfl⟩
        rw [hx] at HSx HRl HCs
        simp only [lsV] at HSx HRl HCs
        have HP := Lib.hid (hPas.put (m := m) (L := Ls) (tm := tm) x (by omega) HSx.out)
        obtain ⟨nl, hnl⟩ : ∃ nl, Ls.length = nl := ⟨_, rfl⟩
        rw [hnl] at HCs
        have HNl := Lib.hid hnl
        have HPs := Lib.hid hPas
        have HTo := Lib.hid htold
        have HXo := Lib.hid hXo
        have HNk := Lib.hid hntk
        obtain ⟨mk0, hmk0⟩ : ∃ z, mkI la g = z := ⟨_, rfl⟩
        obtain ⟨E, hE⟩ : ∃ z, mayE la g S m Ls tm = z := ⟨_, rfl⟩
        obtain ⟨g1, hg1⟩ : ∃ z, putMo la g S m Ls tm = z := ⟨_, rfl⟩
        obtain ⟨S1, hS1⟩ : ∃ z, putSS la g S m Ls tm x = z := ⟨_, rfl⟩
        obtain ⟨sE, hsE⟩ : ∃ z, smpE m Ls tm = z := ⟨_, rfl⟩
        have hlate := HP.out.late
        have hinv := HP.out.inv
        have htl := HP.out.told
        have hge := HP.out.ge
        have hz0 : E = 0 → sE = 0 ∧ ¬ tm ≤ mk0 := fun e => by
          have hF := may_few (la := la) (mo := g) (m := m) (L := Ls) (tm := tm) hPas.few (by omega)
          rw [hE, hsE, hmk0, e] at hF
          by_cases h1 : sE ≠ 0
          · rw [if_pos h1] at hF; exact absurd hF.symm h1
          · rw [if_neg h1] at hF
            by_cases h2 : tm ≤ mk0
            · rw [if_pos h2] at hF; exact absurd hF (by decide)
            · exact ⟨by omega, h2⟩
        have hE0 : E = 0 → g1 = max g tm := fun e => by rw [← hg1]; unfold putMo; rw [hE, if_pos e]
        have hE1 : E ≠ 0 → g1 = g := fun e => by rw [← hg1]; unfold putMo; rw [hE, if_neg e]
        rw [hE, hsE, hmk0] at hlate
        rw [hE, hg1, hS1] at hinv
        rw [hS1] at htl
        rw [hg1] at hge
        have HL := Lib.hid hlate
        have HZ0 := Lib.hid hz0
        obtain ⟨mk1, hmk1⟩ : ∃ z, mkI la g1 = z := ⟨_, rfl⟩
        have HMk1 := Lib.hid hmk1
        have hmm : ¬ mk1 < mk0 := by have := mk_more (la := la) hge; omega
        have HMM := Lib.hid hmm
        have HI := Lib.hid hinv
        have HT := Lib.hid (htl.trans htold.symm)
        have HG := Lib.hid (And.intro hE0 (And.intro hE1 hge))
        have HMk := Lib.hid hmk0
        have HsE := Lib.hid hsE
        have HPutA : Hid (∀ W F, Below w.heap.size w W → IntO i la g pa S W F → Calls Try.prog 9 #[iptr i, .agg #[.string m, .slice Al nl cl, .int .i64 tm, .int .i64 x]] W fun e w' => e = .returned (.int .i64 E) ∧ Goes (IntO i la g1 pa S1) F W w') := Lib.hid (fun W F hb hi => by
          have := mput_any (tm := tm) (x := x) (c := cl) hi HNl.out (HRl.out.below hb) HSx.out (by have := HPs.out.few.len; omega)
          rwa [hE, hg1, hS1] at this)
        clear hLM hPas htold hXo hntk hadl hkX hx hnl hmk0 hE hg1 hS1 hsE hlate hinv htl hge hE0 hE1 HP HW hz0 hmk1 hmm
        have OB := fun (g pa : Int) (S : List SrP) (vt vo : Value) (nt : Nat) (Xo : List Sm) => Star.obj (IntO.obj i la g pa S) (Star.obj (TookO.obj vt nt) (OutO.obj vo Xo))
        have HOb := Lib.hid OB
        clear OB
        go_wp2_with fail
        refine (HS.out.read1 (fun F h => mmark_any h)).mono ?_
        rintro e w4 ⟨rfl, hb⟩
        replace HS := Lib.hid (HS.out.go (HOb.out _ _ _ _ _ _ _) hb)
        rw [HMk.out]
        clear hb
        obtain ⟨c0, c1, c2, c3⟩ := HCs.out _ HS.out.below
        go_wp2_with fail
        clear c0 c1 c2 c3
        refine (HS.out.turn1 (Star.obj (TookO.obj _ _) (OutO.obj _ _)) (fun F h => HPutA.out _ F HS.out.below h)).mono ?_
        rintro e w5 ⟨rfl, hS⟩
        replace HS := Lib.hid hS
        clear hS HPutA
        go_upto_region 15 with fail
        go_cut [77] from 40 to 130 (fun v wx => v = .bool false ∧ Hid (LM w (Star (IntO i la g1 pa S1) (Star (TookO (.slice At nt ct) nt) (OutO (.slice Ao no co) Xo))) wx))
        case first =>
          obtain ⟨c0, c1, c2, c3⟩ := HCs.out _ HS.out.below
          have CC := Lib.hid (rsmp_any (m := m) (c := cl) (t := tm) (k := x) HNl.out (HRl.out.below HS.out.below) HSx.out)
          rw [HsE.out] at CC
          go_wp2_with fail
          clear c0 c1 c3
          refine CC.out.mono ?_
          rintro e w6 ⟨rfl, hb⟩
          replace HS := Lib.hid (HS.out.go (HOb.out _ _ _ _ _ _ _) hb)
          clear hb CC c2
          obtain ⟨c0, c1, c2, c3⟩ := HCs.out _ HS.out.below
          by_cases hE : E = 0
          · subst hE
            obtain ⟨rfl, htm⟩ := HZ0.out rfl
            go_wp2_with fail
            clear c0 c1 c2 c3
            refine (HS.out.read1 (fun F h => mmark_any h)).mono ?_
            rintro e w7 ⟨rfl, hb⟩
            replace HS := Lib.hid (HS.out.go (HOb.out _ _ _ _ _ _ _) hb)
            rw [HMk1.out]
            clear hb
            have hmm := HMM.out
            go_wp2_with fail
            go_meet
            exact ⟨by first | rfl | (simp; omega), HS⟩
          by_cases hs : sE = 0
          · subst hs
            by_cases htm : tm ≤ mk0
            · obtain rfl : E = 8 := HL.out.2 ⟨rfl, htm⟩
              go_wp2_with fail
              clear c0 c1 c2 c3
              refine (HS.out.read1 (fun F h => mmark_any h)).mono ?_
              rintro e w7 ⟨rfl, hb⟩
              replace HS := Lib.hid (HS.out.go (HOb.out _ _ _ _ _ _ _) hb)
              rw [HMk1.out]
              clear hb
              have hmm := HMM.out
              go_wp2_with fail
              go_meet
              exact ⟨by first | rfl | (simp; omega), HS⟩
            · have hE8 : ¬ E = 8 := fun e => htm (HL.out.1 e).2
              have hE8b : (E == 8) = false := by simp [hE8]
              go_wp2_with fail
              clear c0 c1 c2 c3
              refine (HS.out.read1 (fun F h => mmark_any h)).mono ?_
              rintro e w7 ⟨rfl, hb⟩
              replace HS := Lib.hid (HS.out.go (HOb.out _ _ _ _ _ _ _) hb)
              rw [HMk1.out]
              clear hb
              have hmm := HMM.out
              go_wp2_with fail
              go_meet
              exact ⟨by first | rfl | (simp; omega), HS⟩
          · have hE8 : ¬ E = 8 := fun e => hs (HL.out.1 e).1
            have hE8b : (E == 8) = false := by simp [hE8]
            go_wp2_with fail
            clear c0 c1 c2 c3
            refine (HS.out.read1 (fun F h => mmark_any h)).mono ?_
            rintro e w7 ⟨rfl, hb⟩
            replace HS := Lib.hid (HS.out.go (HOb.out _ _ _ _ _ _ _) hb)
            rw [HMk1.out]
            clear hb
            have hmm := HMM.out
            go_wp2_with fail
            go_meet
            exact ⟨by first | rfl | (simp; omega), HS⟩
        case rest =>
          obtain ⟨rfl, HS'⟩ := hcut
          replace HS := HS'
          clear HS'
          go_upto_if 79 with fail
          go_cut [9, 11] from 40 to 130 (fun v9 v11 wx => ∃ (nt1 ct1 : Nat) (At1 : Option Addr), v9 = .slice At1 nt1 ct1 ∧ v11 = .int .i64 g1 ∧ Hid (LM w (Star (IntO i la g1 pa S1) (Star (TookO (.slice At1 nt1 ct1) nt1) (OutO (.slice Ao no co) Xo))) wx) ∧ Hid (PasI la g1 pa S1 (k + 1) nt1) ∧ Hid (nt1 ≤ k + 1))
          case first =>
            by_cases hE : E = 0
            · subst hE
              have hg1 : g1 = max g tm := HG.out.1 rfl
              have HI' : Hid (PasI la g1 pa S1 (k + 1) (nt + 1)) := Lib.hid (by have := HI.out; rwa [if_pos rfl] at this)
              by_cases hgt : g < tm
              · have hg2 : tm = g1 := by omega
                clear hg1
                subst hg2
                obtain ⟨xs, Fx, hrow, hFx⟩ : ∃ xs F, RowAt wc F 34 4 (.slice At nt ct) nt xs ∧ ∀ k, F k → w.heap.size ≤ k := by
                  obtain ⟨F, ⟨_, G, _, ⟨F1, _, ⟨xs, hr⟩, _, _, hF, _⟩, _, _, hG⟩, hF0⟩ := HS.out.mem
                  exact ⟨xs, F1, hr, fun k hk => hF0 k (hG k (hF k hk))⟩
                have HBlw : Hid (∀ W, FC wc (fun k => (Value.slice At nt ct).ownBlock = some k) [] W → Below w.heap.size w W) := Lib.hid (fun W ho => HS.out.below.trans (ho.only.below (fun k hk => hFx k (hrow.lt k hk).1) HS.out.size))
                have HRow := Lib.hid hrow
                have HNt : Hid (nt ≤ 67108864) := Lib.hid (by
                  obtain ⟨F, ⟨F1, _, h1, _⟩, _⟩ := HS.out.mem
                  have e1 := (evs_len h1 0 1099511627776).1
                  have e2 := HI'.out.tot
                  rw [btE_len] at e1
                  omega)
                obtain ⟨is, his, hz1, hz2, hz3⟩ := info_parts infoSmR
                have HIS := Lib.hid (And.intro his (And.intro hz1 (And.intro hz2 hz3)))
                have HSt := Lib.hid (HS.out.comm.assoc.comm)
                clear hrow hFx his hz1 hz2 hz3
                go_wp2_with fail
                refine wp_region_two 16 [(0, false), (1, false), (2, false), (3, false), (4, false), (7, false), (8, false), (9, false), (10, false), (11, false), (12, false), (13, false), (5, true), (6, true), (14, false), (15, false)] [] [] rfl (FC wc (fun k => (Value.slice At nt ct).ownBlock = some k) []) (D0 wc) (by kernel_rfl) (by kernel_rfl) FC.stab (D0.stab wc) (FC.stab _ _ ⟨Only.refl _ _, fun p hp => by cases hp⟩ (Below.refl _ _).drew) (Below.refl _ _).drew ?_
                repeat (first | (refine wt_q rfl rfl ?_; apply Exists.intro; refine ⟨fun w' hw' => ?_, fun K hK => ?_⟩; (focus ((have q0 := HCs.out _ (HBlw.out _ hw'); obtain ⟨c0, c1, c2, c3⟩ := q0); go_simp; first | exact quiet_value | fail)); simp only [Act.put, List.setIfInBounds_toArray, List.set_cons_zero, List.set_cons_succ]; refine hK.out _ ?_; clear hK K) | (refine wt_skip rfl rfl (fun K hK => ?_); simp only [Act.put, List.setIfInBounds_toArray, List.set_cons_zero, List.set_cons_succ]; refine hK.out _ ?_; clear hK K))
                refine wt_bs 34 #[.string m, .slice Al nl cl, .int .i64 tm, .int .i64 x] rfl rfl rfl (fun w' hc hd => ?_) (fun K hK v => ?_)
                focus
                  have HCd := Lib.hid (And.intro hc hd)
                  clear hc hd
                  go_simp
                  exact bs_res HCd.out.1 HCd.out.2 rfl
                simp only [Act.put, List.setIfInBounds_toArray, List.set_cons_zero, List.set_cons_succ]
                refine hK.out _ _ _ ?_
                clear hK K
                refine wt_ap 4 (nt + 1) (xs ++ [.string m, .slice Al nl cl, .int .i64 tm, .int .i64 x]) rfl rfl rfl (fun w' hc hd => ?_) (fun K hK v' => ?_)
                focus
                  obtain ⟨u, w3, hrun, hres⟩ := ap_run (P := Try.prog) 22 22 34 is _ 4 56 Try.underlying22 HIS.out.1 HIS.out.2.1 HIS.out.2.2.1 HIS.out.2.2.2 rfl HRow.out (fun _ => Iff.rfl) (fun p hp => by cases hp) rfl (fun u hu => smc_one [(m, (Al, cl, Ls), tm, x)] u (by simpa [rowF, lsV, HNl.out] using hu)) (by have := HNt.out; omega) (by omega) hc hd
                  exact st_ap (.tmp 80) (.tmp 85) rfl rfl rfl hrun hres
                simp only [Act.put, List.setIfInBounds_toArray, List.set_cons_zero, List.set_cons_succ]
                refine hK.out _ _ _ ?_
                clear hK K
                repeat (first | (refine wt_q rfl rfl ?_; apply Exists.intro; refine ⟨fun w' hw' => ?_, fun K hK => ?_⟩; (focus ((skip); go_simp; first | exact quiet_value | fail)); simp only [Act.put, List.setIfInBounds_toArray, List.set_cons_zero, List.set_cons_succ]; refine hK.out _ ?_; clear hK K) | (refine wt_skip rfl rfl (fun K hK => ?_); simp only [Act.put, List.setIfInBounds_toArray, List.set_cons_zero, List.set_cons_succ]; refine hK.out _ ?_; clear hK K))
                refine wt_nil ?_
                rintro w7 ⟨⟨hc3, _⟩, _⟩ hd7
                obtain ⟨A7, c7, rfl⟩ : ∃ A c, v' = .slice A (nt + 1) c := by
                  obtain ⟨w2, _, hr, _⟩ := hd7
                  obtain ⟨A, c, e, _⟩ := hr.form
                  exact ⟨A, c, e⟩
                replace HS := Lib.hid ((HSt.out.took (Star.obj (OutO.obj _ _) (IntO.obj _ _ _ _ _)) (fun _ => Iff.rfl) hd7).comm.ssoc.comm)
                clear hc3 hd7 HSt HRow HIS HBlw
                try simp only [List.drop_succ_cons, List.drop_zero]
                go_wp2_with fail
                go_meet
                exact ⟨nt + 1, c7, A7, rfl, rfl, HS, HI', Lib.hid (Nat.succ_le_succ HNk.out)⟩
              · have hg2 : g = g1 := by omega
                clear hg1
                subst hg2
                obtain ⟨xs, Fx, hrow, hFx⟩ : ∃ xs F, RowAt wc F 34 4 (.slice At nt ct) nt xs ∧ ∀ k, F k → w.heap.size ≤ k := by
                  obtain ⟨F, ⟨_, G, _, ⟨F1, _, ⟨xs, hr⟩, _, _, hF, _⟩, _, _, hG⟩, hF0⟩ := HS.out.mem
                  exact ⟨xs, F1, hr, fun k hk => hF0 k (hG k (hF k hk))⟩
                have HBlw : Hid (∀ W, FC wc (fun k => (Value.slice At nt ct).ownBlock = some k) [] W → Below w.heap.size w W) := Lib.hid (fun W ho => HS.out.below.trans (ho.only.below (fun k hk => hFx k (hrow.lt k hk).1) HS.out.size))
                have HRow := Lib.hid hrow
                have HNt : Hid (nt ≤ 67108864) := Lib.hid (by
                  obtain ⟨F, ⟨F1, _, h1, _⟩, _⟩ := HS.out.mem
                  have e1 := (evs_len h1 0 1099511627776).1
                  have e2 := HI'.out.tot
                  rw [btE_len] at e1
                  omega)
                obtain ⟨is, his, hz1, hz2, hz3⟩ := info_parts infoSmR
                have HIS := Lib.hid (And.intro his (And.intro hz1 (And.intro hz2 hz3)))
                have HSt := Lib.hid (HS.out.comm.assoc.comm)
                clear hrow hFx his hz1 hz2 hz3
                go_wp2_with fail
                refine wp_region_two 16 [(0, false), (1, false), (2, false), (3, false), (4, false), (7, false), (8, false), (9, false), (10, false), (11, false), (12, false), (13, false), (5, true), (6, true), (14, false), (15, false)] [] [] rfl (FC wc (fun k => (Value.slice At nt ct).ownBlock = some k) []) (D0 wc) (by kernel_rfl) (by kernel_rfl) FC.stab (D0.stab wc) (FC.stab _ _ ⟨Only.refl _ _, fun p hp => by cases hp⟩ (Below.refl _ _).drew) (Below.refl _ _).drew ?_
                repeat (first | (refine wt_q rfl rfl ?_; apply Exists.intro; refine ⟨fun w' hw' => ?_, fun K hK => ?_⟩; (focus ((have q0 := HCs.out _ (HBlw.out _ hw'); obtain ⟨c0, c1, c2, c3⟩ := q0); go_simp; first | exact quiet_value | fail)); simp only [Act.put, List.setIfInBounds_toArray, List.set_cons_zero, List.set_cons_succ]; refine hK.out _ ?_; clear hK K) | (refine wt_skip rfl rfl (fun K hK => ?_); simp only [Act.put, List.setIfInBounds_toArray, List.set_cons_zero, List.set_cons_succ]; refine hK.out _ ?_; clear hK K))
                refine wt_bs 34 #[.string m, .slice Al nl cl, .int .i64 tm, .int .i64 x] rfl rfl rfl (fun w' hc hd => ?_) (fun K hK v => ?_)
                focus
                  have HCd := Lib.hid (And.intro hc hd)
                  clear hc hd
                  go_simp
                  exact bs_res HCd.out.1 HCd.out.2 rfl
                simp only [Act.put, List.setIfInBounds_toArray, List.set_cons_zero, List.set_cons_succ]
                refine hK.out _ _ _ ?_
                clear hK K
                refine wt_ap 4 (nt + 1) (xs ++ [.string m, .slice Al nl cl, .int .i64 tm, .int .i64 x]) rfl rfl rfl (fun w' hc hd => ?_) (fun K hK v' => ?_)
                focus
                  obtain ⟨u, w3, hrun, hres⟩ := ap_run (P := Try.prog) 22 22 34 is _ 4 56 Try.underlying22 HIS.out.1 HIS.out.2.1 HIS.out.2.2.1 HIS.out.2.2.2 rfl HRow.out (fun _ => Iff.rfl) (fun p hp => by cases hp) rfl (fun u hu => smc_one [(m, (Al, cl, Ls), tm, x)] u (by simpa [rowF, lsV, HNl.out] using hu)) (by have := HNt.out; omega) (by omega) hc hd
                  exact st_ap (.tmp 80) (.tmp 85) rfl rfl rfl hrun hres
                simp only [Act.put, List.setIfInBounds_toArray, List.set_cons_zero, List.set_cons_succ]
                refine hK.out _ _ _ ?_
                clear hK K
                repeat (first | (refine wt_q rfl rfl ?_; apply Exists.intro; refine ⟨fun w' hw' => ?_, fun K hK => ?_⟩; (focus ((skip); go_simp; first | exact quiet_value | fail)); simp only [Act.put, List.setIfInBounds_toArray, List.set_cons_zero, List.set_cons_succ]; refine hK.out _ ?_; clear hK K) | (refine wt_skip rfl rfl (fun K hK => ?_); simp only [Act.put, List.setIfInBounds_toArray, List.set_cons_zero, List.set_cons_succ]; refine hK.out _ ?_; clear hK K))
                refine wt_nil ?_
                rintro w7 ⟨⟨hc3, _⟩, _⟩ hd7
                obtain ⟨A7, c7, rfl⟩ : ∃ A c, v' = .slice A (nt + 1) c := by
                  obtain ⟨w2, _, hr, _⟩ := hd7
                  obtain ⟨A, c, e, _⟩ := hr.form
                  exact ⟨A, c, e⟩
                replace HS := Lib.hid ((HSt.out.took (Star.obj (OutO.obj _ _) (IntO.obj _ _ _ _ _)) (fun _ => Iff.rfl) hd7).comm.ssoc.comm)
                clear hc3 hd7 HSt HRow HIS HBlw
                try simp only [List.drop_succ_cons, List.drop_zero]
                go_wp2_with fail
                go_meet
                exact ⟨nt + 1, c7, A7, rfl, rfl, HS, HI', Lib.hid (Nat.succ_le_succ HNk.out)⟩
            · have hEb : (E == 0) = false := by simp [hE]
              obtain rfl : g1 = g := HG.out.2.1 hE
              have HI' : Hid (PasI la g1 pa S1 (k + 1) nt) := Lib.hid (by have := HI.out; rwa [if_neg hE] at this)
              go_wp2_with fail
              go_meet
              exact ⟨nt, ct, At, rfl, rfl, HS, HI', Lib.hid (Nat.le_succ_of_le HNk.out)⟩
          case rest =>
            obtain ⟨nt1, ct1, At1, rfl, rfl, HS', HI', HNk1⟩ := hcut
            replace HS := HS'
            replace HI := HI'
            clear HS' HI'
            go_upto_region 19 with fail
            go_cut [100] from 40 to 130 (fun v wx => v = .bool false ∧ Hid (LM w (Star (IntO i la g1 pa S1) (Star (TookO (.slice At1 nt1 ct1) nt1) (OutO (.slice Ao no co) Xo))) wx))
            case first =>
              go_wp2_with fail
              refine (HS.out.read1 (fun F h => mmark_any h)).mono ?_
              rintro e w8 ⟨rfl, hb⟩
              replace HS := Lib.hid (HS.out.go (HOb.out _ _ _ _ _ _ _) hb)
              rw [HMk1.out]
              clear hb
              obtain ⟨d, hd⟩ : ∃ z, g1 - la = z := ⟨_, rfl⟩
              have HIk : Hid (0 ≤ g1 ∧ g1 ≤ 1099511627776) := Lib.hid (by
                obtain ⟨F, ⟨F1, _, h1, _⟩, _⟩ := HS.out.mem
                exact ⟨h1.1.mo0, h1.1.mo1⟩)
              have hwd : IntKind.i64.wrap (g1 - la) = d := by rw [IntKind.wrap_i64]; have := HIk.out; have := HLa.out; omega
              have hmd : mk1 = max 0 d := by rw [← HMk1.out, ← hd]; rfl
              clear hd
              by_cases hd0 : 0 < d
              · obtain rfl : mk1 = d := by omega
                clear hmd
                go_wp2_with fail
                go_meet
                exact ⟨rfl, HS⟩
              · obtain rfl : mk1 = 0 := by omega
                clear hmd
                go_wp2_with fail
                go_meet
                exact ⟨rfl, HS⟩
            case rest =>
              obtain ⟨rfl, HS'⟩ := hcut
              replace HS := HS'
              clear HS'
              by_cases hkp : k < p
              · have hkpI : (k : Int) < (p : Int) := by omega
                obtain ⟨nd, rfl, hndl, HNc⟩ : ∃ nd, N = some nd ∧ nd.block < w.heap.size ∧ Hid (∀ W, Below w.heap.size w W → ∃ n0, L[k]? = some n0 ∧ W.cell? (nd.add k) = some (.int .i64 n0)) := by
                  obtain ⟨nd, e, hl, _⟩ := HNs.out.2 (by omega)
                  refine ⟨nd, e, hl, Lib.hid (fun W hb => ?_)⟩
                  have hlen : L.length = p := by have := HNs.out.1; rw [List.length_map] at this; omega
                  refine ⟨L[k]'(by omega), List.getElem?_eq_getElem _, ?_⟩
                  obtain ⟨nd', e', _, hc⟩ := (HNs.out.below hb).2 (by omega)
                  rw [e] at e'; cases e'
                  exact hc k _ (by rw [List.getElem?_map, List.getElem?_eq_getElem (by omega)]; rfl)
                obtain ⟨n0, hn0, _⟩ := HNc.out _ HS.out.below
                have HC0 : Hid (∀ W, Below w.heap.size w W → W.cell? (nd.add k) = some (.int .i64 n0)) := Lib.hid (fun W hb => by
                  obtain ⟨n1, h1, h2⟩ := HNc.out W hb
                  rw [hn0] at h1; cases h1; exact h2)
                clear HNc hn0 hndl
                have d0 := HC0.out _ HS.out.below
                go_wp2_with fail
                clear d0
                refine (HS.out.read1 (fun F h => mnext_any (n0 := n0) h rfl rfl)).mono ?_
                rintro e w9 ⟨ov, Y, rfl, hY, hYm, hb⟩
                have hNx := nx_told (mn := n0.toNat) HI.out.rise HI.out.pam rfl
                obtain ⟨tt, htt⟩ : ∃ z, nxT (btE pa (mkI la g1) (ptsL S1)) n0.toNat pa (mkI la g1) = z := ⟨_, rfl⟩
                rw [htt] at hNx
                rw [show nxT (btE pa (mkI la g1) (S1.map (fun y : SrP => y.2))) n0.toNat pa (mkI la g1) = tt from htt]
                have HNx := Lib.hid hNx
                clear hNx htt
                have HTold := Lib.hid (fun (v' : Value) (w2 : World) => LM.told (v' := v') (w2 := w2) (Star.obj (IntO.obj _ _ _ _ _) (TookO.obj _ _)) HS.out.ssoc hb hY)
                have HYm := Lib.hid hYm
                obtain ⟨A9, c9, rfl⟩ := or_form hY.row
                have HEv : Hid (Xo.length ≤ 67108864 ∧ Y.length ≤ 67108864) := Lib.hid (by
                  obtain ⟨F, ⟨F1, _, h1, _⟩, _⟩ := HS.out.mem
                  have e1 : (btE 0 pa (ptsL S1)).length ≤ 67108864 := (evs_len h1 0 pa).1
                  have e3 : (btE pa (tt) (ptsL S1)).length ≤ 67108864 := (evs_len h1 pa (tt)).1
                  have e4 := congrArg List.length HT.out
                  have e5 := congrArg List.length HYm.out
                  rw [List.length_map, List.length_map] at e4 e5
                  have e6 : Y.length = (nxL (btE pa (mkI la g1) (ptsL S1)) n0.toNat).length := e5
                  rw [HNx.out.1] at e6
                  omega)
                obtain ⟨ny, hny⟩ : ∃ z, Y.length = z := ⟨_, rfl⟩
                have HNy := Lib.hid hny
                have HNz : Hid (ny ≤ n0.toNat) := Lib.hid (by
                  have e5 := congrArg List.length HYm.out
                  rw [List.length_map, List.length_map] at e5
                  have e6 : Y.length ≤ n0.toNat := Nat.le_trans (Nat.le_of_eq e5) HNx.out.2.2.2
                  omega)
                have HRd := Lib.hid (Reads.of_own hY.row)
                have HS9 := Lib.hid (HS.out.go (HOb.out _ _ _ _ _ _ _) hb)
                clear hY hYm hb
                rw [hny] at HRd ⊢
                clear hny
                have HO : Hid (w9.ownsRow 0 34 4 (.slice Ao no co) no (smF Xo)) := Lib.hid (by
                  obtain ⟨F, ⟨_, G, _, ⟨_, F2, _, hr, _⟩, _⟩, _⟩ := HS9.out.mem
                  have := hr.1
                  rwa [HXo.out] at this)
                go_wp2_with (at_builtin; go_loud (refine wpL_sms rfl _ _ rfl 0 _ Xo no rfl HO.out _ _ _ Y rfl HRd.out ?o6 (Nat.zero_le _) ?o5))
                case o6 => have h1 := HEv.out; have h2 := HXo.out; have h3 := HNy.out; omega
                case o5 =>
                  intro v' w10 hr hg hv
                  obtain ⟨A10, c10, rfl⟩ := or_form hr
                  have HS10 := Lib.hid (HTold.out _ w10 (by rw [HXo.out, HNy.out]; exact hr) hg hv).assoc
                  clear hr hg hv
                  go_wp2_with fail
                  have hnp := HNx.out.2.1
                  have hnm := HNx.out.2.2.1
                  have HT0 := Lib.hid (show passE la g1 pa tt = 0 from if_neg (by omega))
                  have HT1 := Lib.hid (show passP la g1 pa tt = tt from if_neg (by omega))
                  have CP : Calls Try.prog 15 #[iptr i, .int .i64 tt] w10 fun e w' => e = .returned (.int .i64 0) ∧ LM w (Star (IntO i la g1 tt S1) (Star (TookO (.slice At1 nt1 ct1) nt1) (OutO (.slice A10 (no + ny) c10) (Xo ++ Y)))) w' := by
                    refine HS10.out.turn1 (A' := IntO i la g1 tt S1) (Star.obj (TookO.obj _ _) (OutO.obj _ _)) (fun F h => ?_)
                    have h2 : Calls Try.prog 15 #[iptr i, .int .i64 tt] w10 fun e w' => e = .returned (.int .i64 (passE la g1 pa tt)) ∧ Goes (IntO i la g1 (passP la g1 pa tt) S1) F w10 w' := mpass_any h
                    rwa [HT0.out, HT1.out] at h2
                  refine CP.mono ?_
                  rintro e w11 ⟨rfl, hS⟩
                  replace HS := Lib.hid hS
                  have HRel : Hid (PasW w i la (k + 1) (.slice At1 nt1 ct1) (.slice A10 (no + ny) c10) g1 w11) := Lib.hid ⟨_, S1, nt1, Xo ++ Y, hS, HI.out.pass hnp hnm, by
                    rw [List.map_append, HT.out.symm, HYm.out, HNx.out.1, ← List.map_append, ← btE_cut HI.out.pa0 hnp HI.out.rise], HNk1.out⟩
                  have d0 := HC0.out _ hS.below
                  clear hS CP hnp hnm HTold HO HRd HS9 HS10 HEv HNx HYm HT0 HT1
                  have hw : IntKind.i64.wrap ((k : Int) + 1) = ((k + 1 : Nat) : Int) := by rw [IntKind.wrap_i64]; omega
                  by_cases hn0 : 0 < n0
                  · have hny : ¬ n0 < (ny : Int) := by have := HNz.out; omega
                    go_wp2_with fail
                    go_roundw
                    case rel => exact ⟨k + 1, _, _, _, _, _, _, _, rfl, rfl, rfl, by go_num, by omega, HRel⟩
                    case measure => simp [intOf]; omega
                  · have hny : ¬ 0 < (ny : Int) := by have := HNz.out; omega
                    go_wp2_with fail
                    go_roundw
                    case rel => exact ⟨k + 1, _, _, _, _, _, _, _, rfl, rfl, rfl, by go_num, by omega, HRel⟩
                    case measure => simp [intOf]; omega
              · have hkpI : ¬ (k : Int) < (p : Int) := by omega
                have hw : IntKind.i64.wrap ((k : Int) + 1) = ((k + 1 : Nat) : Int) := by rw [IntKind.wrap_i64]; omega
                have HRel : Hid (PasW w i la (k + 1) (.slice At1 nt1 ct1) (.slice Ao no co) g1 wc) := Lib.hid ⟨pa, S1, nt1, Xo, HS.out, HI.out, HT.out.symm, HNk1.out⟩
                go_wp2_with fail
                go_roundw
                case rel => exact ⟨k + 1, _, _, _, _, _, _, _, rfl, rfl, rfl, by go_num, by omega, HRel⟩
                case measure => simp [intOf]; omega
      · have hkI : ¬ (k : Int) < (n : Int) := by omega
        obtain ⟨pa, S, nt', Xo, hLM, hPas, htold, hntk⟩ := HW.out
        obtain rfl : nt' = nt := by
          obtain ⟨F, ⟨_, G, _, ⟨F1, _, ⟨xs, hr⟩, _⟩, _⟩, _⟩ := hLM.mem
          obtain ⟨_, _, e, _⟩ := hr.form
          injection e with _ e2 _
          exact e2.symm
        have hXo : Xo.length = no := by
          obtain ⟨F, ⟨_, G, _, ⟨_, F2, _, hr, _⟩, _⟩, _⟩ := hLM.mem
          obtain ⟨_, _, e, _⟩ := hr.rd
          injection e with _ e2 _
          exact e2.symm
        have hpa1 : pa ≤ 1099511627776 := by
          obtain ⟨F, ⟨F1, _, h1, _⟩, _⟩ := hLM.mem
          exact h1.1.pa1
        have HXl : Hid (nt' ≤ 80 ∧ no ≤ 80) := Lib.hid (by have := told_len hPas hpa1 htold; omega)
        have HS := Lib.hid hLM
        have HPs := Lib.hid hPas
        have HTo := Lib.hid htold
        have HXo := Lib.hid hXo
        clear hLM hPas htold hXo hntk hpa1 HW hk hkn
        have HOb : Hid (Obj1 (Star (IntO i la g pa S) (Star (TookO (.slice At nt' ct) nt') (OutO (.slice Ao no co) Xo)))) := Lib.hid (Star.obj (IntO.obj i la g pa S) (Star.obj (TookO.obj _ _) (OutO.obj _ Xo)))
        go_wp2_with fail
        go_loopw [16] (fun v wr => ∃ j : Nat, v = .int .i64 (j : Int) ∧ j ≤ no ∧ Hid (LM w (Star (IntO i la g pa S) (Star (TookO (.slice At nt' ct) nt') (OutO (.slice Ao no co) Xo))) wr)) (fun v _ => no - (intOf v).toNat)
        case atStart => exact ⟨0, rfl, Nat.zero_le _, HS⟩
        case round =>
          clear HS
          obtain ⟨j, rfl, hj, HS⟩ := hrel
          by_cases hjn : j < no
          · have hjI : (j : Int) < (no : Int) := by omega
            obtain ⟨ad, hA, hadl⟩ : ∃ ad, Ao = some ad ∧ ad.block < wr.heap.size := by
              obtain ⟨F, ⟨_, G, _, ⟨_, F2, _, hr, _⟩, _⟩, _⟩ := HS.out.mem
              obtain ⟨A', c', e, hrd⟩ := hr.rd
              have e1 : Ao = A' := by injection e
              subst e1
              exact hrd.some_ (by rw [HXo.out]; omega)
            subst hA
            have hjX : j < Xo.length := by rw [HXo.out]; exact hjn
            obtain ⟨ho1, ho2⟩ := told_order HPs.out HTo.out hjX
            obtain ⟨tj, htj⟩ : ∃ z, Xo[j].2.2.1 = z := ⟨_, rfl⟩
            obtain ⟨tq, htq⟩ : ∃ z : Int, 0 < j → Xo[j - 1].2.2.1 = z := ⟨Xo[j - 1].2.2.1, fun _ => rfl⟩
            obtain ⟨j1, hj1⟩ : ∃ z, j - 1 = z := ⟨_, rfl⟩
            have HCj : Hid (∀ W, Below wr.heap.size wr W → W.cell? { block := (ad.add (j * 4)).block, off := (ad.add (j * 4)).off + 2 } = some (.int .i64 tj) ∧ (0 < j → W.cell? { block := (ad.add (j1 * 4)).block, off := (ad.add (j1 * 4)).off + 2 } = some (.int .i64 tq))) := Lib.hid (fun W hb => by
              obtain ⟨F, ⟨_, G, _, ⟨_, F2, _, hr, _⟩, _⟩, _⟩ := (HS.out.go HOb.out hb).mem
              obtain ⟨A', c', e, hrd⟩ := hr.rd
              have e1 : some ad = A' := by injection e
              subst e1
              obtain ⟨_, _, h1, _⟩ := hrd.at_ hjX
              rw [htj] at h1
              refine ⟨h1, fun h0 => ?_⟩
              obtain ⟨_, _, h2, _⟩ := hrd.at_ (show j - 1 < Xo.length by omega)
              rw [htq h0, hj1] at h2
              exact h2)
            have HCp : Hid (∀ W, Below wr.heap.size wr W → Calls Try.prog 16 #[iptr i] W fun e w' => e = .returned (.int .i64 pa) ∧ Below W.heap.size W w') := Lib.hid (fun W hb => (HS.out.go HOb.out hb).read1 (fun F h => mpassed_any h))
            rw [htj] at ho1
            have hd2 : decide (pa < tj) = false := decide_eq_false (by omega)
            by_cases hj0 : j = 0
            · have hjZ : decide ((0 : Int) < (j : Int)) = false := by simp; omega
              have hjN : ¬ 0 < j := by omega
              have hjN2 : ¬ (0 : Int) < (j : Int) := by omega
              clear ho2 htj htq hj1 hjX hadl ho1 hj0
              go_wp2_with fail
              refine wp_region_here 26 [(0, false), (1, false), (2, false), (3, false), (4, false), (5, false), (6, false), (7, false), (8, false), (9, false), (10, false), (11, false), (12, false), (13, false), (14, false), (15, false), (16, false), (17, false), (18, false), (19, false), (20, false), (21, false), (22, false), (23, false), (24, false), (25, false)] (fun _ => .cells #[] 0) (by kernel_rfl) (by kernel_rfl) ?_
              repeat (first | (refine wpP_q rfl rfl rfl ?_; apply Exists.intro; refine ⟨fun w' hw' => ?_, fun K hK => ?_⟩; (focus ((obtain ⟨c0, _⟩ := HCj.out _ hw'); go_simp; first | exact quiet_value | with_reducible exact quiet_enter (HCp.out _ hw'))); simp only [Act.put, List.setIfInBounds_toArray, List.set_cons_zero, List.set_cons_succ]; refine hK.out _ ?_; clear hK K) | (refine wpP_skip rfl rfl rfl (fun K hK => ?_); simp only [Act.put, List.setIfInBounds_toArray, List.set_cons_zero, List.set_cons_succ]; refine hK.out _ ?_; clear hK K) | (refine wpP_skipu rfl rfl rfl (fun K hK => ?_); simp only [Act.put, List.setIfInBounds_toArray, List.set_cons_zero, List.set_cons_succ]; refine hK.out _ ?_; clear hK K))
              refine wpP_nil ?_
              intro w2 hb2
              replace HS := Lib.hid (HS.out.go HOb.out hb2)
              clear hb2
              try simp only [List.drop_succ_cons, List.drop_zero]
              have hw : IntKind.i64.wrap ((j : Int) + 1) = ((j + 1 : Nat) : Int) := by rw [IntKind.wrap_i64]; have := HXl.out; omega
              go_wp2_with fail
              go_roundw
              case rel => exact ⟨j + 1, by go_num, by omega, HS⟩
              case measure => simp [intOf]; omega
            · have hjP : 0 < j := by omega
              have hjZ : decide ((0 : Int) < (j : Int)) = true := by simp; omega
              have hle := ho2 hjP
              rw [htq hjP, htj] at hle
              have hd1 : decide (tj < tq) = false := decide_eq_false (by omega)
              have hwj : IntKind.i64.wrap ((j : Int) - 1) = (j1 : Int) := by rw [IntKind.wrap_i64]; have := HXl.out; omega
              have hj1n : j1 < no := by omega
              have hj1I : (j1 : Int) < (no : Int) := by omega
              replace HCj : Hid (∀ W, Below wr.heap.size wr W → W.cell? { block := (ad.add (j * 4)).block, off := (ad.add (j * 4)).off + 2 } = some (.int .i64 tj) ∧ W.cell? { block := (ad.add (j1 * 4)).block, off := (ad.add (j1 * 4)).off + 2 } = some (.int .i64 tq)) := Lib.hid (fun W hb => ⟨(HCj.out W hb).1, (HCj.out W hb).2 hjP⟩)
              clear ho2 htj htq hj1 hjX hadl ho1 hle hj0
              go_wp2_with fail
              refine wp_region_here 26 [(0, false), (1, false), (2, false), (3, false), (4, false), (5, false), (6, false), (7, false), (8, false), (9, false), (10, false), (11, false), (12, false), (13, false), (14, false), (15, false), (16, false), (17, false), (18, false), (19, false), (20, false), (21, false), (22, false), (23, false), (24, false), (25, false)] (fun _ => .cells #[] 0) (by kernel_rfl) (by kernel_rfl) ?_
              repeat (first | (refine wpP_q rfl rfl rfl ?_; apply Exists.intro; refine ⟨fun w' hw' => ?_, fun K hK => ?_⟩; (focus ((obtain ⟨c0, c1⟩ := HCj.out _ hw'); go_simp; first | exact quiet_value | with_reducible exact quiet_enter (HCp.out _ hw'))); simp only [Act.put, List.setIfInBounds_toArray, List.set_cons_zero, List.set_cons_succ]; refine hK.out _ ?_; clear hK K) | (refine wpP_skip rfl rfl rfl (fun K hK => ?_); simp only [Act.put, List.setIfInBounds_toArray, List.set_cons_zero, List.set_cons_succ]; refine hK.out _ ?_; clear hK K) | (refine wpP_skipu rfl rfl rfl (fun K hK => ?_); simp only [Act.put, List.setIfInBounds_toArray, List.set_cons_zero, List.set_cons_succ]; refine hK.out _ ?_; clear hK K))
              refine wpP_nil ?_
              intro w2 hb2
              replace HS := Lib.hid (HS.out.go HOb.out hb2)
              clear hb2
              try simp only [List.drop_succ_cons, List.drop_zero]
              have hw : IntKind.i64.wrap ((j : Int) + 1) = ((j + 1 : Nat) : Int) := by rw [IntKind.wrap_i64]; have := HXl.out; omega
              go_wp2_with fail
              go_roundw
              case rel => exact ⟨j + 1, by go_num, by omega, HS⟩
              case measure => simp [intOf]; omega
          · have hjI : ¬ (j : Int) < (no : Int) := by omega
            clear hj hjn
            go_wp2_with fail
            refine (HS.out.read1 (fun F h => mpassed_any h)).mono ?_
            rintro e w3 ⟨rfl, hb⟩
            replace HS := Lib.hid (HS.out.go HOb.out hb)
            clear hb
            go_wp2_with fail
            refine (HS.out.read1 (fun F h => mBetween_any (f := 0) (u := pa) h rfl)).mono ?_
            rintro e w4 ⟨ov, Y, rfl, hY, hYm, hb⟩
            replace HS := Lib.hid (HS.out.go HOb.out hb)
            have CS : ∃ A4 c4, ov = .slice A4 no c4 ∧ Hid (Calls Try.prog 17 #[.slice Ao no co, .slice A4 no c4] w4 fun e w' => e = .returned (.bool true) ∧ Below w4.heap.size w4 w') := by
              have hl : Y.length = no := by
                have e1 := congrArg List.length (hYm.trans HTo.out.symm)
                rw [List.length_map, List.length_map, HXo.out] at e1
                exact e1
              obtain ⟨A4, c4, rfl, hr4⟩ := hY.rd
              rw [hl] at hr4 ⊢
              refine ⟨A4, c4, rfl, Lib.hid ?_⟩
              obtain ⟨F, ⟨_, G, _, ⟨_, F2, _, hr, _⟩, _⟩, _⟩ := HS.out.mem
              obtain ⟨A', c', e, hrd⟩ := hr.rd
              have e1 : Ao = A' := by injection e
              subst e1
              rw [HXo.out] at hrd
              exact samp_any hrd hr4 (HTo.out.trans hYm.symm) (by have := HXl.out; omega) (fun x hx => by have := (told_ser HPs.out HTo.out x hx).2.1; omega)
            obtain ⟨A4, c4, rfl, CS⟩ := CS
            clear hY hYm hb
            go_wp2_with fail
            refine CS.out.mono ?_
            rintro e w5 ⟨rfl, hb⟩
            replace HS := Lib.hid (HS.out.go HOb.out hb)
            clear hb CS
            go_wp2_with fail
            refine (HS.out.read1 (fun F h => msamples_any h rfl)).mono ?_
            rintro e w6 ⟨ov, Y, rfl, hY, hYm, hb⟩
            replace HS := Lib.hid (HS.out.go HOb.out hb)
            obtain ⟨A6, c6, rfl⟩ := or_form hY.row
            rw [all_len HPs.out hYm]
            clear hY hYm hb
            go_wp2_with fail
            have C1 := Lib.hid (mnew_any (la := la) w6 HLa.out.1 HLa.out.2)
            go_wp2_with fail
            refine C1.out.mono ?_
            rintro e w7 ⟨i2, rfl, h1, h2⟩
            have HS2 := Lib.hid (LM.more (IntO.obj _ _ _ _ _) HS.out.fst h2 h1 (fun _ h => h))
            clear h1 h2 C1 HS HOb
            go_wp2_with fail
            refine (HS2.out.read1 (fun F h => msamples_any h rfl)).mono ?_
            rintro e w8 ⟨ov, Z, rfl, hZ, hZm, hb⟩
            have HS := Lib.hid (LM.more (Star.obj (IntO.obj _ _ _ _ _) (IntO.obj _ _ _ _ _)) HS2.out hb (OutO.of_made hZ) (fun _ h => h)).assoc.snd
            obtain ⟨A8, c8, rfl⟩ := or_form hZ.row
            have HZl := Lib.hid (all_len HPs.out hZm)
            have HZm := Lib.hid hZm
            rw [HZl.out] at HS ⊢
            clear hZ hZm hb HS2
            have HZs := Lib.hid (told_ser HPs.out HZm.out)
            obtain ⟨E, hE⟩ : ∃ z, btE 0 1099511627776 (ptsL S) = z := ⟨_, rfl⟩
            have HE := Lib.hid hE
            have HA : Hid (AgI la 0 S [] E 0) := Lib.hid (AgI.nil (fun e he => by rw [← hE] at he; exact (btE_tm he).1))
            rw [show btE 0 1099511627776 (S.map (fun y : SrP => y.2)) = E from hE] at HZm
            have HEl : Hid (E.length = nt') := Lib.hid (by
              have := congrArg List.length HZm.out
              rw [List.length_map, List.length_map, HZl.out] at this
              exact this.symm)
            clear hE HXo HTo
            go_wp2_with fail
            go_loopw [8, 20] (fun _ v wr => ∃ (j : Nat) (mo2 : Int) (S2 : List SrP), v = .int .i64 (j : Int) ∧ j ≤ nt' ∧ Hid (LM w (Star (IntO i2 la mo2 0 S2) (OutO (.slice A8 nt' c8) Z)) wr) ∧ Hid (AgI la mo2 S S2 E j)) (fun _ v _ => nt' - (intOf v).toNat)
            case atStart => exact ⟨0, 0, [], rfl, Nat.zero_le _, HS, HA⟩
            case round =>
              clear HS HA
              obtain ⟨j, mo2, S2, rfl, hj, HS, HA⟩ := hrel
              by_cases hjn : j < nt'
              · have hjI : (j : Int) < (nt' : Int) := by omega
                obtain ⟨ad, hA8, hadl⟩ : ∃ ad, A8 = some ad ∧ ad.block < wr.heap.size := by
                  obtain ⟨F, ⟨_, G, _, hr, _⟩, _⟩ := HS.out.mem
                  obtain ⟨A', c', e, hrd⟩ := hr.rd
                  have e1 : A8 = A' := by injection e
                  subst e1
                  exact hrd.some_ (by rw [HZl.out]; omega)
                subst hA8
                have hjZ : j < Z.length := by rw [HZl.out]; exact hjn
                have HSx := Lib.hid (HZs.out _ (List.getElem_mem hjZ))
                obtain ⟨hjE, hje⟩ := told_at HZm.out hjZ
                obtain ⟨q0, q1, q2, q3, qr⟩ : wr.cell? (ad.add (j * 4)) = some (.string Z[j].1) ∧
                  wr.cell? { block := (ad.add (j * 4)).block, off := (ad.add (j * 4)).off + 1 } = some (lsV Z[j].2.1) ∧ wr.cell? { block := (ad.add (j * 4)).block, off := (ad.add (j * 4)).off + 2 } = some (.int .i64 Z[j].2.2.1) ∧ wr.cell? { block := (ad.add (j * 4)).block, off := (ad.add (j * 4)).off + 3 } = some (.int .i64 Z[j].2.2.2) ∧ RdLs wr Z[j].2.1 := by
                  obtain ⟨F, ⟨_, G, _, hr, _⟩, _⟩ := HS.out.mem
                  obtain ⟨A', c', e, hrd⟩ := hr.rd
                  have e1 : some ad = A' := by injection e
                  subst e1
                  obtain ⟨h1, h2, h3, h4⟩ := hrd.at_ hjZ
                  exact ⟨h1, h2, h3, h4, hrd.2.2 _ (List.getElem_mem hjZ)⟩
                obtain ⟨⟨m, ⟨Al, cl, Ls⟩, tm, x⟩, hx⟩ : ∃ x, Z[j] = x := ⟨_, rfl⟩
                rw [hx] at HSx q0 q1 q2 q3 qr hje
                have HP := Lib.hid (HA.out.put (m := m) (L := Ls) (tm := tm) (x := x) HPs.out HE.out hjE (by have := HXl.out; omega) hje.symm)
                obtain ⟨nl, hnl⟩ : ∃ nl, Ls.length = nl := ⟨_, rfl⟩
                simp only [lsV] at q1 HSx qr
                rw [hnl] at q1
                have CP := Lib.hid (HS.out.turn1 (OutO.obj _ _) (fun F h => mput_any (m := m) (A := Al) (n := nl) (c := cl) (L := Ls) (tm := tm) (x := x) h hnl qr HSx.out (by have := HA.out.few.len; have := HXl.out; omega)))
                obtain ⟨e1, he1⟩ : ∃ z, mayE la mo2 S2 m Ls tm = z := ⟨_, rfl⟩
                have hok := HP.out.ok
                rw [he1] at CP hok
                have HOk := Lib.hid hok
                clear hjZ hjE hje hx hnl qr he1 hok hadl HA
                go_wp2_with fail
                refine CP.out.mono ?_
                rintro e w9 ⟨rfl, hS⟩
                replace HS := Lib.hid hS
                have HA := Lib.hid HP.out.inv
                clear hS CP q0 q1 q2 q3
                have hw : IntKind.i64.wrap ((j : Int) + 1) = ((j + 1 : Nat) : Int) := by rw [IntKind.wrap_i64]; have := HXl.out; omega
                rcases HOk.out with h | ⟨h0, h8⟩
                · subst h
                  go_wp2_with fail
                  go_roundw
                  case rel => exact ⟨j + 1, _, _, by go_num, by omega, HS, HA⟩
                  case measure => simp [intOf]; omega
                · subst h8
                  have hl2 : la ≤ 0 := by omega
                  have hl1 : (la == 0) = true := by simp [h0]
                  clear h0
                  go_wp2_with fail
                  go_roundw
                  case rel => exact ⟨j + 1, _, _, by go_num, by omega, HS, HA⟩
                  case measure => simp [intOf]; omega
              · have hjI : ¬ (j : Int) < (nt' : Int) := by omega
                obtain rfl : j = nt' := by omega
                clear hj hjn
                by_cases hl0 : la = 0
                · have hl1 : (la == 0) = true := by simp [hl0]
                  clear hl0
                  go_wp2_with fail
                  go_ret
                  exact ⟨rfl, HS.out.below⟩
                · have hl1 : (la == 0) = false := by simp [hl0]
                  have HTt := Lib.hid (HA.out.tot hl0)
                  clear hl0
                  go_wp2_with fail
                  refine (HS.out.read1 (fun F h => msamples_any h rfl)).mono ?_
                  rintro e w9 ⟨ov, Y, rfl, hY, hYm, hb⟩
                  replace HS := Lib.hid (HS.out.go (Star.obj (IntO.obj _ _ _ _ _) (OutO.obj _ _)) hb)
                  obtain ⟨A9, c9, rfl⟩ := or_form hY.row
                  have hl : Y.length = j := by
                    have e1 := congrArg List.length hYm
                    rw [List.length_map, List.length_map] at e1
                    have e3 := btE_len 0 1099511627776 S2
                    have e4 := HTt.out
                    omega
                  rw [hl]
                  clear hY hYm hb hl
                  go_wp2_with fail
                  go_ret
                  exact ⟨rfl, HS.out.below⟩
  · have C1 := Lib.hid (mnew_bad (la := la) w2 (by omega))
    go_wp2_with fail
    refine C1.out.mono ?_
    rintro e w3 ⟨rfl, hb3⟩
    have HB3 := Lib.hid (HB2.out.trans (hb3.mono HB2.out.size))
    clear hb3
    go_wp2_with fail
    go_ret
    exact ⟨rfl, HB3.out⟩
end
end Go.Proofs.Ytangcgfchalnaaa
