/- BufferFree, walked. -/
import Derived.Test.YtfblmmnofhkkaaaBfG
import Derived.BigRegion
namespace Go.Proofs.Ytfblmmnofhkkaaa
open Go.RowKit
/-- Numbers in memory. -/
def RInt (w : World) (A : Option Addr) (zs : List Int) : Prop := 0 < zs.length → ∃ a, A = some a ∧ a.block < w.heap.size ∧ ∀ i (h : i < zs.length), w.cell? (a.add i) = some (.int .i64 zs[i])
theorem RInt.below {w w' : World} {A : Option Addr} {zs : List Int} (h : RInt w A zs) (hb : Below w.heap.size w w') : RInt w' A zs := fun h0 => by
  obtain ⟨a, h1, h2, h3⟩ := h h0
  exact ⟨a, h1, Nat.lt_of_lt_of_le h2 hb.size, fun i hi => (hb.cell (by rw [actAdd_block]; exact h2)).trans (h3 i hi)⟩
/-- The law's objects: two buffers, a row of acts. -/
abbrev Thr (a b : Nat) (P R : List Pt) (M : Option Addr) (mc n : Nat) (m : List ActV) : Ob := Star (Two a b P 0 R 0) (ActO M mc n m)
theorem thr_obj (a b : Nat) (P R : List Pt) (M : Option Addr) (mc n : Nat) (m : List ActV) : Obj1 (Thr a b P R M mc n m) := Star.obj (two_obj _ _ _ _ _ _) (OwnO.obj _ _ _ _ _)
section
variable {w0 w : World} {a b mc n : Nat} {P R P' R' : List Pt} {M : Option Addr} {m : List ActV}
theorem thr_a (h : LM w0 (Thr a b P R M mc n m) w) {Q : Ending → Prop} {f : Nat} {args : Array Value} (hc : ∀ F, BufO a P 0 w F → Calls Try.prog f args w fun e w' => Q e ∧ Goes (BufO a P' 0) F w w') : Calls Try.prog f args w fun e w' => Q e ∧ LM w0 (Thr a b P' R M mc n m) w' :=
  h.turn1 (OwnO.obj _ _ _ _ _) (fun _ ⟨F, G, h1, h2, h3, h4, h5⟩ => (hc F h1).mono fun _ _ ⟨c, d⟩ => ⟨c, Star.goes1 (BufO.obj _ _ _) h2 h3 h4 h5 d⟩)
theorem thr_b (h : LM w0 (Thr a b P R M mc n m) w) {Q : Ending → Prop} {f : Nat} {args : Array Value} (hc : ∀ F, BufO b R 0 w F → Calls Try.prog f args w fun e w' => Q e ∧ Goes (BufO b R' 0) F w w') : Calls Try.prog f args w fun e w' => Q e ∧ LM w0 (Thr a b P R' M mc n m) w' :=
  h.turn1 (OwnO.obj _ _ _ _ _) (fun _ ⟨F, G, h1, h2, h3, h4, h5⟩ => (hc G h2).mono fun _ _ ⟨c, d⟩ => ⟨c, Star.goes2 (BufO.obj _ _ _) h1 h3 h4 h5 d⟩)
theorem thr_ra (h : LM w0 (Thr a b P R M mc n m) w) {Q : Ending → World → Prop} {f : Nat} {args : Array Value} (hc : ∀ F, BufO a P 0 w F → Calls Try.prog f args w Q) : Calls Try.prog f args w Q :=
  h.read1 (fun _ ⟨F, G, h1, h2, _⟩ => hc F h1)
theorem thr_rb (h : LM w0 (Thr a b P R M mc n m) w) {Q : Ending → World → Prop} {f : Nat} {args : Array Value} (hc : ∀ F, BufO b R 0 w F → Calls Try.prog f args w Q) : Calls Try.prog f args w Q :=
  h.read1 (fun _ ⟨F, G, h1, h2, _⟩ => hc G h2)
end
/-- The swap, in memory. -/
def setA (w : World) (g i : Nat) (e : ActV) : World := ((w.setCell ⟨g, i * 3, none⟩ (.int .i64 e.1)).setCell ⟨g, i * 3 + 1, none⟩ (.int .i64 e.2.1)).setCell ⟨g, i * 3 + 2, none⟩ (.int .i64 e.2.2)
theorem setA_goes {w : World} {F : Nat → Prop} {g mc n : Nat} {m : List ActV} (h : ActO (some ⟨g, 0, none⟩) mc n m w F) (i : Nat) (e : ActV) : Goes (ActO (some ⟨g, 0, none⟩) mc n (m.set i e)) F w (setA w g i e) := by
  have hF : F g := h.2 g rfl
  have hlt := (h.1.lt g rfl).2
  have hO : Only F w (setA w g i e) := (((Only.refl F w).setCell (p := ⟨g, i * 3, none⟩) (fun _ => hF) _).setCell (p := ⟨g, i * 3 + 1, none⟩) (fun _ => hF) _).setCell (p := ⟨g, i * 3 + 2, none⟩) (fun _ => hF) _
  exact ⟨fun k => k = g, ⟨act_put h.1 i e, fun g' e' => by cases e'; rfl⟩, fun k hk => by subst hk; exact ⟨.inl hF, Nat.lt_of_lt_of_le hlt hO.size⟩, hO⟩
set_option maxHeartbeats 16000000 in
set_option maxRecDepth 100000 in
theorem bfree_any (A : Option Addr) (l : List ActV) (cap : Nat) (B : Option Addr) (zs : List Int) (bc : Nat) (x y z : Int) (w : World) (hA : RAct w A l) (hB : RInt w B zs) :
    Calls Try.prog 6 #[.slice A l.length cap, .slice B zs.length bc, .int .i64 x, .int .i64 y, .int .i64 z] w fun e w' => e = .returned (.bool true) ∧ Below w.heap.size w w' := by
  obtain ⟨N, hN⟩ : ∃ N, l.length = N := ⟨_, rfl⟩
  obtain ⟨K, hK⟩ : ∃ K, zs.length = K := ⟨_, rfl⟩
  have HN := Lib.hid hN
  have HA := Lib.hid hA
  have HKK := Lib.hid hK
  have HZ := Lib.hid hB
  rw [hN, hK]
  clear hA hN hK hB
  go_enter Try.func6, Try.ntmps6
  go_wp2_with fail
  refine (lives_any w).mono ?_
  rintro e w1 ⟨rfl, hb⟩
  have HB1 := Lib.hid hb
  clear hb
  by_cases hg : (400 : Int) < (N : Int) ∨ (400 : Int) < (K : Int) ∨ y < x ∨ z < y
  · by_cases h1 : (400 : Int) < (N : Int)
    · go_wp2_with fail
      go_ret
      exact ⟨rfl, HB1.out⟩
    · by_cases h2 : (400 : Int) < (K : Int)
      · go_wp2_with fail
        go_ret
        exact ⟨rfl, HB1.out⟩
      · by_cases h3 : y < x
        · go_wp2_with fail
          go_ret
          exact ⟨rfl, HB1.out⟩
        · have h4 : z < y := by omega
          go_wp2_with fail
          go_ret
          exact ⟨rfl, HB1.out⟩
  obtain ⟨h1, h2, h3, h4⟩ : ¬ (400 : Int) < (N : Int) ∧ ¬ (400 : Int) < (K : Int) ∧ ¬ y < x ∧ ¬ z < y := by omega
  have HNm : Hid (N ≤ 400 ∧ K ≤ 400) := Lib.hid (by omega)
  have HXY : Hid (x ≤ y ∧ y ≤ z) := Lib.hid (by omega)
  clear hg
  go_wp2_with fail
  clear h1 h2 h3 h4
  refine (new_lm HB1.out).mono ?_
  rintro e w2 ⟨rfl, h2⟩
  have HS := Lib.hid h2
  obtain ⟨a, ha⟩ : ∃ a, w1.heap.size = a := ⟨_, rfl⟩
  rw [ha] at HS
  clear h2
  go_wp2_with fail
  clear ha
  refine (new_more (BufO.obj _ _ _) HS.out).mono ?_
  rintro e w3 ⟨rfl, h3⟩
  obtain ⟨b, hb⟩ : ∃ b, w2.heap.size = b := ⟨_, rfl⟩
  rw [hb] at h3
  have HT := Lib.hid h3
  clear h3 HS
  have HO : Hid ((w3.alloc (.cells #[] 37)).ownsRow w3.heap.size 37 3 (.slice (some ⟨w3.heap.size, 0, none⟩) 0 0) 0 []) := Lib.hid (World.ownsRow_lit w3 #[] 0 (Nat.le_refl _) (by decide) rfl)
  have HB3 := Lib.hid ((Below.refl w3.heap.size w3).alloc (Nat.le_refl _) (.cells #[] 37))
  have HRd : Hid (Reads (w3.alloc (.cells #[] 37)) (w3.alloc (.cells #[] 37)).heap.size 3 A l.length (rowA l)) := Lib.hid (RAct.reads (HA.out.below (HT.out.below.trans (HB3.out.mono HT.out.size))))
  go_wp2_with (at_builtin; go_loud (refine wpL_acts rfl _ _ rfl w3.heap.size _ [] rfl HO.out _ _ _ l rfl HN.out.symm HRd.out ?o3 HB3.out.size ?o5))
  case o3 => have := HNm.out; have := HN.out; first | omega | (simp; omega)
  case o5 =>
    intro v' w4 HO' hg _
    have HB4 := Lib.hid (HB3.out.grown hg HB3.out.size (fun k e => (World.ownsRow.lt HO.out k e).1))
    simp only [List.length_nil, Nat.zero_add, rowA, List.nil_append] at HO'
    rw [HN.out] at HO'
    obtain ⟨M, mc, rfl⟩ := or_form HO'
    have HT4 : Hid (LM w (Thr a b [] [] M mc N l) w4) := Lib.hid (HT.out.own (two_obj _ _ _ _ _ _) HB4.out HO' (Nat.le_refl _))
    clear hg HO' HO HB3 HRd HB4 HT
    go_wp2_with fail
    clear hb
    go_loopw [14] (fun v wr => ∃ (k : Nat) (m : List ActV), k ≤ N ∧ v = .int .i64 k ∧ m.length = N ∧ Hid (l.Perm m) ∧ Hid (LM w (Thr a b [] [] M mc N m) wr)) (fun v _ => N - (intOf v).toNat)
    case atStart => exact ⟨0, l, Nat.zero_le _, rfl, HN.out, Lib.hid (List.Perm.refl _), HT4⟩
    clear HT4 HB1
    case round =>
      obtain ⟨k, m, hk, rfl, hm, HP, HT⟩ := hrel
      have hnm := HNm.out
      by_cases hkk : k < N ∧ k < K
      · obtain ⟨hkN, hkK⟩ := hkk
        have hkz : k < zs.length := by rw [HKK.out]; exact hkK
        have hkm : k < m.length := by omega
        obtain ⟨ba, rfl, _, _⟩ := HZ.out (by omega)
        have cz : wr.cell? (ba.add k) = some (.int .i64 zs[k]) := by
          obtain ⟨ba', e, _, h⟩ := HZ.out.below HT.out.below (by omega)
          cases e
          exact h k hkz
        have hd : (1 : Int) ≤ (N : Int) - (k : Int) := by omega
        obtain ⟨r0, r1⟩ := pickN_in zs[k] hd
        obtain ⟨nt, hnt⟩ : ∃ nt : Nat, (k : Int) + pickN zs[k] ((N : Int) - (k : Int)) = nt := ⟨((k : Int) + pickN zs[k] ((N : Int) - (k : Int))).toNat, by omega⟩
        obtain ⟨d, hdd⟩ : ∃ d, (N : Int) - (k : Int) = d := ⟨_, rfl⟩
        rw [hdd] at hd r0 r1 hnt
        have CP := Lib.hid (fun W => pick_any zs[k] d (by omega) W)
        obtain ⟨zk, hzk⟩ : ∃ zk, zs[k] = zk := ⟨_, rfl⟩
        rw [hzk] at CP r0 r1 hnt cz
        obtain ⟨r, hr⟩ : ∃ r, pickN zk d = r := ⟨_, rfl⟩
        rw [hr] at CP r0 r1 hnt
        have hw1 : IntKind.i64.wrap ((N : Int) - (k : Int)) = d := by rw [IntKind.wrap_i64]; omega
        have hw2 : IntKind.i64.wrap ((k : Int) + r) = (nt : Int) := by rw [IntKind.wrap_i64]; omega
        have hw3 : IntKind.i64.wrap ((k : Int) + 1) = ((k + 1 : Nat) : Int) := by rw [IntKind.wrap_i64]; omega
        have hnn : nt < m.length := by omega
        have hnN : (nt : Int) < (N : Int) := by omega
        have hkN' : (k : Int) < (N : Int) := by omega
        have hkK' : (k : Int) < (K : Int) := by omega
        clear hzk hr hdd hnt r0 r1 hd
        go_wp2_with fail
        refine (CP.out _).mono ?_
        rintro e w5 ⟨rfl, rfl⟩
        clear cz CP
        obtain ⟨g, rfl⟩ := or_addr HT.out.got (by omega)
        obtain ⟨q1, q2, q3⟩ := act_cell HT.out.got k hkm
        obtain ⟨q4, q5, q6⟩ := act_cell HT.out.got nt hnn
        have f1 := World.ownsRow.frozenAt HT.out.got (k * 3)
        have f2 := World.ownsRow.frozenAt HT.out.got (k * 3 + 1)
        have f3 := World.ownsRow.frozenAt HT.out.got (k * 3 + 2)
        have O1 := act_put HT.out.got k m[nt]
        obtain ⟨q7, q8, q9⟩ := act_cell O1 nt (by simpa using hnn)
        have f4 := World.ownsRow.frozenAt O1 (nt * 3)
        have f5 := World.ownsRow.frozenAt O1 (nt * 3 + 1)
        have f6 := World.ownsRow.frozenAt O1 (nt * 3 + 2)
        have S4 := HT.out.goes2 (two_obj _ _ _ _ _ _) (fun G h => (setA_goes h k m[nt]).trans (fun G' h' => setA_goes h' nt m[k]))
        unfold setA at S4
        have S5 := Lib.hid (S4.go (thr_obj _ _ _ _ _ _ _ _) (Below.refl _ _).drew)
        have HP2 := Lib.hid (HP.out.trans (swapA_perm m k nt hkm hnn))
        have hl2 := swapA_len m k nt hkm hnn
        unfold swapA at HP2 hl2
        clear O1 S4 HT HP
        go_wp2_with fail
        go_region
        clear q1 q2 q3 q4 q5 q6 q7 q8 q9 f1 f2 f3 f4 f5 f6
        generalize (World.drew _) = w6 at *
        go_wp2_with fail
        go_roundw
        case rel => exact ⟨k + 1, _, by omega, rfl, by rw [hl2]; exact hm, HP2, S5⟩
        case measure => simp [intOf]; omega
      · have hex : ¬ (k : Int) < (N : Int) ∨ (k : Int) < (N : Int) ∧ ¬ (k : Int) < (K : Int) := by omega
        have HM := Lib.hid hm
        have HPm := Lib.hid HP.out
        have HTm := Lib.hid HT.out
        clear HT HP hkk hm hk
        rcases hex with hx | ⟨hx, hx2⟩
        all_goals
          go_wp2_with fail
          go_loopw [16] (fun v wr => ∃ k : Nat, k ≤ N ∧ v = .int .i64 k ∧ Hid (NoT l k) ∧ Hid (LM w (Thr a b (folP (l.take k)) (folP (m.take k)) M mc N m) wr)) (fun v _ => N - (intOf v).toNat)
          case atStart => exact ⟨0, Nat.zero_le _, rfl, Lib.hid (fun j _ h => absurd h (by omega)), HTm⟩
          clear HTm
          case round =>
            clear hx
            try clear hx2
            obtain ⟨k, hk, rfl, HNo, HT⟩ := hrel
            by_cases h0 : k < N
            · skip
              have hkl : k < l.length := by rw [HN.out]; exact h0
              have hkm : k < m.length := by rw [HM.out]; exact h0
              obtain ⟨ad, rfl, _, _⟩ := HA.out (by omega)
              have HX0 := Lib.hid h0
              have HCL : Hid (∀ W, Below w.heap.size w W → W.cell? { block := (ad.add (k * 3)).block, off := (ad.add (k * 3)).off + 1 } = some (.int .i64 l[k].2.1) ∧ W.cell? { block := (ad.add (k * 3)).block, off := (ad.add (k * 3)).off + 2 } = some (.int .i64 l[k].2.2)) := Lib.hid (fun W hb => by
                obtain ⟨ad', e, _, h⟩ := HA.out.below hb (by omega)
                cases e
                exact (h.at_ k hkl).2)
              obtain ⟨g, rfl⟩ := or_addr HT.out.got (by omega)
              have HCM : Hid (∀ W P R, LM w (Thr a b P R (some ⟨g, 0, none⟩) mc N m) W → W.cell? ⟨g, k * 3 + 1, none⟩ = some (.int .i64 m[k].2.1) ∧ W.cell? ⟨g, k * 3 + 2, none⟩ = some (.int .i64 m[k].2.2)) := Lib.hid (fun W P R h => (act_cell h.got k hkm).2)
              have el : l.take (k + 1) = l.take k ++ [l[k]] := (List.take_append_getElem hkl).symm
              have em : m.take (k + 1) = m.take k ++ [m[k]] := (List.take_append_getElem hkm).symm
              have HFl : Hid (folP (l.take (k + 1)) = putP l[k].2.1 l[k].2.2 (folP (l.take k)) 0) := Lib.hid (by rw [el, folP_snoc])
              have HFm : Hid (folP (m.take (k + 1)) = putP m[k].2.1 m[k].2.2 (folP (m.take k)) 0) := Lib.hid (by rw [em, folP_snoc])
              have HNk : Hid (putE l[k].2.1 (folP (l.take k)) 0 ≠ 7 → NoT l (k + 1)) := Lib.hid (fun hne j hj hjk => by
                rcases Nat.lt_or_eq_of_le (Nat.le_of_lt_succ hjk) with h | rfl
                · exact HNo.out j hj h
                · exact hne)
              obtain ⟨Pa, hPa⟩ : ∃ P, folP (l.take k) = P := ⟨_, rfl⟩
              obtain ⟨Pb, hPb⟩ : ∃ P, folP (m.take k) = P := ⟨_, rfl⟩
              obtain ⟨Pa', hPa'⟩ : ∃ P, folP (l.take (k + 1)) = P := ⟨_, rfl⟩
              obtain ⟨Pb', hPb'⟩ : ∃ P, folP (m.take (k + 1)) = P := ⟨_, rfl⟩
              rw [hPa, hPa'] at HFl
              rw [hPb, hPb'] at HFm
              rw [hPa] at HNk
              rw [hPa, hPb] at HT
              have HPa' := Lib.hid hPa'
              have HPb' := Lib.hid hPb'
              obtain ⟨⟨lk, lt, ln⟩, hlx⟩ : ∃ x, l[k] = x := ⟨_, rfl⟩
              obtain ⟨⟨mk, mt, mn⟩, hmx⟩ : ∃ x, m[k] = x := ⟨_, rfl⟩
              rw [hlx] at HCL HFl HNk
              rw [hmx] at HCM HFm
              simp only at HCL HFl HNk HCM HFm
              obtain ⟨x1, hx1⟩ : ∃ x, putE lt Pa 0 = x := ⟨_, rfl⟩
              rw [hx1] at HNk
              have HC1 := Lib.hid (fun W (h : LM w (Thr a b Pa Pb (some ⟨g, 0, none⟩) mc N m) W) => thr_a h (fun F h => put_go lt ln hx1 HFl.out.symm h))
              have HC2 := Lib.hid (fun W (h : LM w (Thr a b Pa' Pb (some ⟨g, 0, none⟩) mc N m) W) => thr_b h (fun F h => put_go mt mn rfl HFm.out.symm h))
              have hnm := HNm.out
              have hw : IntKind.i64.wrap ((k : Int) + 1) = ((k + 1 : Nat) : Int) := by rw [IntKind.wrap_i64]; omega
              clear hkl hkm el em hPa hPb hPa' hPb' hlx hmx hx1 HFl HFm HNo
              go_wp2_with fail
              refine wp_region_here 11 [(0, false), (1, false), (2, false), (3, false), (4, false), (5, false), (6, false), (7, false), (8, false), (9, false), (10, false)] (fun _ => .cells #[] 0) (by kernel_rfl) (by kernel_rfl) ?_
              repeat (first | (refine wpP_q rfl rfl rfl ?_; apply Exists.intro; refine ⟨fun w' hw' => ?_, fun K hK => ?_⟩; (focus ((obtain ⟨c1, c2⟩ := HCL.out _ (HT.out.go (thr_obj _ _ _ _ _ _ _ _) hw').below); go_simp; first | exact quiet_value | fail)); simp only [Act.put, List.setIfInBounds_toArray, List.set_cons_zero, List.set_cons_succ]; refine hK.out _ ?_; clear hK K) | (refine wpP_skip rfl rfl rfl (fun K hK => ?_); simp only [Act.put, List.setIfInBounds_toArray, List.set_cons_zero, List.set_cons_succ]; refine hK.out _ ?_; clear hK K))
              refine wpP_nil ?_
              intro w7 hb7
              have HT7 := Lib.hid (HT.out.go (thr_obj _ _ _ _ _ _ _ _) hb7)
              clear hb7
              (try simp only [List.drop_succ_cons]); (try simp only [List.drop_zero]); (try simp only [List.drop_nil])
              go_wp2_with fail
              refine (HC1.out _ HT7.out).mono ?_
              rintro e w8 ⟨rfl, h8⟩
              have HT8 := Lib.hid h8
              clear h8 HC1 HT7 HT
              by_cases hx7 : x1 = 7
              · subst hx7
                go_wp2_with fail
                go_ret
                exact ⟨rfl, HT8.out.below⟩
              · have hx7' : (x1 == 7) = false := by simpa using hx7
                have HNo' := Lib.hid (HNk.out hx7)
                clear HNk
                go_wp2_with fail
                refine wp_region_here 11 [(0, false), (1, false), (2, false), (3, false), (4, false), (5, false), (6, false), (7, false), (8, false), (9, false), (10, false)] (fun _ => .cells #[] 0) (by kernel_rfl) (by kernel_rfl) ?_
                repeat (first | (refine wpP_q rfl rfl rfl ?_; apply Exists.intro; refine ⟨fun w' hw' => ?_, fun K hK => ?_⟩; (focus ((obtain ⟨c1, c2⟩ := HCM.out _ _ _ (HT8.out.go (thr_obj _ _ _ _ _ _ _ _) hw')); go_simp; first | exact quiet_value | fail)); simp only [Act.put, List.setIfInBounds_toArray, List.set_cons_zero, List.set_cons_succ]; refine hK.out _ ?_; clear hK K) | (refine wpP_skip rfl rfl rfl (fun K hK => ?_); simp only [Act.put, List.setIfInBounds_toArray, List.set_cons_zero, List.set_cons_succ]; refine hK.out _ ?_; clear hK K))
                refine wpP_nil ?_
                intro w9 hb9
                have HT9 := Lib.hid (HT8.out.go (thr_obj _ _ _ _ _ _ _ _) hb9)
                clear hb9
                (try simp only [List.drop_succ_cons]); (try simp only [List.drop_zero]); (try simp only [List.drop_nil])
                go_wp2_with fail
                refine (HC2.out _ HT9.out).mono ?_
                rintro e w10 ⟨rfl, h10⟩
                have HT10 : Hid (LM w (Thr a b (folP (l.take (k + 1))) (folP (m.take (k + 1))) (some ⟨g, 0, none⟩) mc N m) w10) := Lib.hid (by rw [HPa'.out, HPb'.out]; exact h10)
                clear h10 HC2 HT9 HT8
                go_wp2_with fail
                go_roundw
                case rel => exact ⟨k + 1, HX0.out, rfl, HNo', HT10⟩
                case measure =>
                  have h1 := HX0.out
                  simp [intOf]; omega
            · obtain rfl : k = N := by omega
              have hnm := HNm.out
              have hFS := free_same (l := l) (m := m) (by have := HN.out; omega) (by rw [HN.out]; exact HNo.out) HPm.out
              have el : l.take k = l := List.take_of_length_le (by rw [HN.out]; exact Nat.le_refl _)
              have em : m.take k = m := List.take_of_length_le (by rw [HM.out]; exact Nat.le_refl _)
              rw [el, em, ← hFS.1] at HT
              obtain ⟨P, hP⟩ : ∃ P, folP l = P := ⟨_, rfl⟩
              rw [hP] at HT
              obtain ⟨_, f2, f3, f4⟩ := hFS
              rw [hP] at f2 f3 f4
              rw [HN.out] at f3
              have HRi := Lib.hid f2
              have HLn := Lib.hid f3
              have HMm := Lib.hid f4
              have HTi : Hid (TmIn P) := Lib.hid (by
                intro q hq
                rw [← hP] at hq
                have hd : l.Pairwise DistR := by have := not_dist (l := l) (by have := HN.out; omega) (by rw [HN.out]; exact HNo.out) l.length (Nat.le_refl _); rwa [List.take_length] at this
                have := (fol_inv hd (by have := HN.out; omega) l.length (Nat.le_refl _)).2.2 q
                rw [List.take_length] at this
                obtain ⟨a, _, ho, rfl⟩ := this.1 hq
                exact ho)
              clear f2 f3 f4 el em hP HNo HPm
              go_wp2_with fail
              go_loopw [17] (fun v wr => ∃ j : Nat, j ≤ k ∧ v = .int .i64 j ∧ Hid (LM w (Thr a b P P M mc k m) wr)) (fun v _ => k - (intOf v).toNat)
              case atStart => exact ⟨0, Nat.zero_le _, rfl, HT⟩
              clear HT
              case round =>
                obtain ⟨j, hj, rfl, HT⟩ := hrel
                by_cases h0 : j < k
                · skip
                  have hjl : j < l.length := by rw [HN.out]; exact h0
                  obtain ⟨ad, rfl, _, _⟩ := HA.out (by omega)
                  have HX0 := Lib.hid h0
                  have HCL : Hid (∀ W, Below w.heap.size w W → W.cell? { block := (ad.add (j * 3)).block, off := (ad.add (j * 3)).off + 1 } = some (.int .i64 l[j].2.1) ∧ W.cell? { block := (ad.add (j * 3)).block, off := (ad.add (j * 3)).off + 2 } = some (.int .i64 l[j].2.2)) := Lib.hid (fun W hb => by
                    obtain ⟨ad', e, _, h⟩ := HA.out.below hb (by omega)
                    cases e
                    exact (h.at_ j hjl).2)
                  have HMj := Lib.hid (HMm.out l[j] (List.getElem_mem hjl))
                  obtain ⟨⟨lk, lt, ln⟩, hlx⟩ : ∃ x, l[j] = x := ⟨_, rfl⟩
                  rw [hlx] at HCL HMj
                  unfold okA ptA at HMj
                  simp only at HCL HMj
                  have hw : IntKind.i64.wrap ((j : Int) + 1) = ((j + 1 : Nat) : Int) := by rw [IntKind.wrap_i64]; omega
                  have CA := Lib.hid (fun W (h : LM w (Thr a b P P M mc k m) W) => thr_ra h (fun F h => bAt_any lt h))
                  have CL := Lib.hid (fun W (h : LM w (Thr a b P P M mc k m) W) => thr_ra h (fun F h => bLast_any lt h))
                  obtain ⟨an, ai, hA2⟩ : ∃ an ai, atP lt P = (an, ai) := ⟨_, _, rfl⟩
                  obtain ⟨lo, hlo⟩ : ∃ lo, lastP lt P = lo := ⟨_, rfl⟩
                  have HAt := Lib.hid hA2
                  have HLo := Lib.hid hlo
                  obtain ⟨⟨pt, pn⟩, hpp⟩ : ∃ p, lo.getD (0, 0) = p := ⟨_, rfl⟩
                  obtain ⟨pi, hpi⟩ : ∃ b, lo.isSome = b := ⟨_, rfl⟩
                  rw [hA2] at CA
                  rw [hlo] at CL
                  unfold lastV at CL
                  rw [hpp, hpi] at CL
                  simp only at CA CL
                  have HPP := Lib.hid hpp
                  have HPI := Lib.hid hpi
                  clear hjl hlx hA2 hlo hpp hpi
                  obtain ⟨c1, c2⟩ := HCL.out _ HT.out.below
                  go_wp2_with fail
                  refine (CA.out _ HT.out).mono ?_
                  rintro e w7 ⟨rfl, h7⟩
                  have HT7 := Lib.hid (HT.out.go (thr_obj _ _ _ _ _ _ _ _) h7)
                  clear h7 c1 c2 HT CA
                  obtain ⟨c1, c2⟩ := HCL.out _ HT7.out.below
                  go_wp2_with fail
                  refine (CL.out _ HT7.out).mono ?_
                  rintro e w8 ⟨rfl, h8⟩
                  have HT8 := Lib.hid ((HT7.out.go (thr_obj _ _ _ _ _ _ _ _) h8).go (thr_obj _ _ _ _ _ _ _ _) (below_alloc (Below.refl w8.heap.size w8) (.cells #[.int .i64 pt, .int .i64 pn, .bool false] 45)))
                  have HX := Lib.hid (newB w8 (.cells #[.int .i64 pt, .int .i64 pn, .bool false] 45))
                  obtain ⟨X, hX⟩ : ∃ X, w8.heap.size = X := ⟨_, rfl⟩
                  rw [hX] at HX
                  clear h8 c1 c2 HT7 CL
                  obtain ⟨c1, c2⟩ := HCL.out _ HT8.out.below
                  by_cases h1 : 1 ≤ lt
                  · by_cases h2 : lt ≤ 1099511627776
                    · obtain ⟨m1, m2⟩ := at_mem HRi.out (HMj.out ⟨h1, h2⟩)
                      rw [HAt.out] at m1
                      rw [HLo.out] at m2
                      obtain ⟨rfl, rfl⟩ : an = ln ∧ ai = true := by simpa using m1
                      have e1 := HPP.out
                      have e2 := HPI.out
                      rw [m2] at e1 e2
                      obtain ⟨rfl, rfl⟩ : lt = pt ∧ an = pn := by simpa using e1
                      obtain rfl : true = pi := e2
                      have g1 : decide (1 ≤ lt) = true := by simpa using h1
                      have g2 : decide (lt ≤ 1099511627776) = true := by simpa using h2
                      clear m1 m2 e1 HAt HLo HPP HPI HMj
                      go_wp2_with fail
                      refine wp_region_here 35 [(0, false), (1, false), (2, false), (3, false), (4, false), (5, false), (6, false), (7, false), (8, false), (9, false), (10, false), (11, false), (12, false), (13, false), (14, false), (15, false), (16, false), (17, false), (18, false), (19, false), (20, false), (21, false), (22, false), (23, false), (24, false), (25, false), (26, false), (27, false), (28, false), (29, false), (30, false), (31, false), (32, false), (33, false), (34, false)] (fun _ => .cells #[] 0) (by kernel_rfl) (by kernel_rfl) ?_
                      repeat (first | (refine wpP_q rfl rfl rfl ?_; apply Exists.intro; refine ⟨fun w' hw' => ?_, fun K hK => ?_⟩; (focus ((obtain ⟨c1, c2⟩ := HCL.out _ (HT8.out.go (thr_obj _ _ _ _ _ _ _ _) hw').below; have d0 := cellAt (o := 0) (keepB HX.out hw') rfl; have d1 := cellAt (o := 1) (keepB HX.out hw') rfl); go_simp; first | exact quiet_value | fail)); simp only [Act.put, List.setIfInBounds_toArray, List.set_cons_zero, List.set_cons_succ]; refine hK.out _ ?_; clear hK K) | (refine wpP_skip rfl rfl rfl (fun K hK => ?_); simp only [Act.put, List.setIfInBounds_toArray, List.set_cons_zero, List.set_cons_succ]; refine hK.out _ ?_; clear hK K) | (refine wpP_skipu rfl rfl rfl (fun K hK => ?_); simp only [Act.put, List.setIfInBounds_toArray, List.set_cons_zero, List.set_cons_succ]; refine hK.out _ ?_; clear hK K))
                      refine wpP_nil ?_
                      intro w9 hb9
                      have HT9 := Lib.hid (HT8.out.go (thr_obj _ _ _ _ _ _ _ _) hb9)
                      clear hb9 c1 c2 HT8
                      (try simp only [List.drop_succ_cons]); (try simp only [List.drop_zero]); (try simp only [List.drop_nil])
                      go_wp2_with fail
                      go_roundw
                      case rel => exact ⟨j + 1, HX0.out, rfl, HT9⟩
                      case measure =>
                        have h1 := HX0.out
                        simp [intOf]; omega
                    · have g1 : decide (1 ≤ lt) = true := by simpa using h1
                      have g2 : decide (lt ≤ 1099511627776) = false := by simpa using h2
                      clear HAt HLo HPP HPI HMj
                      go_wp2_with fail
                      refine wp_region_here 35 [(0, false), (1, false), (2, false), (3, false), (4, false), (5, false), (6, false), (7, false), (8, false), (9, false), (10, false), (11, false), (12, false), (13, false), (14, false), (15, false), (16, false), (17, false), (18, false), (19, false), (20, false), (21, false), (22, false), (23, false), (24, false), (25, false), (26, false), (27, false), (28, false), (29, false), (30, false), (31, false), (32, false), (33, false), (34, false)] (fun _ => .cells #[] 0) (by kernel_rfl) (by kernel_rfl) ?_
                      repeat (first | (refine wpP_q rfl rfl rfl ?_; apply Exists.intro; refine ⟨fun w' hw' => ?_, fun K hK => ?_⟩; (focus ((obtain ⟨c1, c2⟩ := HCL.out _ (HT8.out.go (thr_obj _ _ _ _ _ _ _ _) hw').below; have d0 := cellAt (o := 0) (keepB HX.out hw') rfl; have d1 := cellAt (o := 1) (keepB HX.out hw') rfl); go_simp; first | exact quiet_value | fail)); simp only [Act.put, List.setIfInBounds_toArray, List.set_cons_zero, List.set_cons_succ]; refine hK.out _ ?_; clear hK K) | (refine wpP_skip rfl rfl rfl (fun K hK => ?_); simp only [Act.put, List.setIfInBounds_toArray, List.set_cons_zero, List.set_cons_succ]; refine hK.out _ ?_; clear hK K) | (refine wpP_skipu rfl rfl rfl (fun K hK => ?_); simp only [Act.put, List.setIfInBounds_toArray, List.set_cons_zero, List.set_cons_succ]; refine hK.out _ ?_; clear hK K))
                      refine wpP_nil ?_
                      intro w9 hb9
                      have HT9 := Lib.hid (HT8.out.go (thr_obj _ _ _ _ _ _ _ _) hb9)
                      clear hb9 c1 c2 HT8
                      (try simp only [List.drop_succ_cons]); (try simp only [List.drop_zero]); (try simp only [List.drop_nil])
                      go_wp2_with fail
                      go_roundw
                      case rel => exact ⟨j + 1, HX0.out, rfl, HT9⟩
                      case measure =>
                        have h1 := HX0.out
                        simp [intOf]; omega
                  · have g1 : decide (1 ≤ lt) = false := by simpa using h1
                    clear HAt HLo HPP HPI HMj
                    go_wp2_with fail
                    refine wp_region_here 35 [(0, false), (1, false), (2, false), (3, false), (4, false), (5, false), (6, false), (7, false), (8, false), (9, false), (10, false), (11, false), (12, false), (13, false), (14, false), (15, false), (16, false), (17, false), (18, false), (19, false), (20, false), (21, false), (22, false), (23, false), (24, false), (25, false), (26, false), (27, false), (28, false), (29, false), (30, false), (31, false), (32, false), (33, false), (34, false)] (fun _ => .cells #[] 0) (by kernel_rfl) (by kernel_rfl) ?_
                    repeat (first | (refine wpP_q rfl rfl rfl ?_; apply Exists.intro; refine ⟨fun w' hw' => ?_, fun K hK => ?_⟩; (focus ((obtain ⟨c1, c2⟩ := HCL.out _ (HT8.out.go (thr_obj _ _ _ _ _ _ _ _) hw').below; have d0 := cellAt (o := 0) (keepB HX.out hw') rfl; have d1 := cellAt (o := 1) (keepB HX.out hw') rfl); go_simp; first | exact quiet_value | fail)); simp only [Act.put, List.setIfInBounds_toArray, List.set_cons_zero, List.set_cons_succ]; refine hK.out _ ?_; clear hK K) | (refine wpP_skip rfl rfl rfl (fun K hK => ?_); simp only [Act.put, List.setIfInBounds_toArray, List.set_cons_zero, List.set_cons_succ]; refine hK.out _ ?_; clear hK K) | (refine wpP_skipu rfl rfl rfl (fun K hK => ?_); simp only [Act.put, List.setIfInBounds_toArray, List.set_cons_zero, List.set_cons_succ]; refine hK.out _ ?_; clear hK K))
                    refine wpP_nil ?_
                    intro w9 hb9
                    have HT9 := Lib.hid (HT8.out.go (thr_obj _ _ _ _ _ _ _ _) hb9)
                    clear hb9 c1 c2 HT8
                    (try simp only [List.drop_succ_cons]); (try simp only [List.drop_zero]); (try simp only [List.drop_nil])
                    go_wp2_with fail
                    go_roundw
                    case rel => exact ⟨j + 1, HX0.out, rfl, HT9⟩
                    case measure =>
                      have h1 := HX0.out
                      simp [intOf]; omega
                · obtain rfl : j = k := by omega
                  have hln := HLn.out
                  obtain ⟨n0, hn0⟩ : ∃ n, P.length = n := ⟨_, rfl⟩
                  obtain ⟨L1, hL1⟩ : ∃ L, rangeP x y P = L := ⟨_, rfl⟩
                  obtain ⟨L2, hL2⟩ : ∃ L, rangeP y z P = L := ⟨_, rfl⟩
                  have hL3 : rangeP x z P = L1 ++ L2 := by rw [← hL1, ← hL2]; exact (range_join HRi.out HXY.out.1 HXY.out.2).symm
                  obtain ⟨n1, hn1⟩ : ∃ n, L1.length = n := ⟨_, rfl⟩
                  obtain ⟨n2, hn2⟩ : ∃ n, L2.length = n := ⟨_, rfl⟩
                  have hn3 : (L1 ++ L2).length = n1 + n2 := by rw [List.length_append, hn1, hn2]
                  have hr1 : n1 ≤ n0 := by rw [← hn1, ← hn0, ← hL1]; exact List.length_filter_le _ _
                  have hr2 : n2 ≤ n0 := by rw [← hn2, ← hn0, ← hL2]; exact List.length_filter_le _ _
                  have C1 := Lib.hid (fun W (h : LM w (Thr a b P P M mc j m) W) => thr_ra h (fun F h => pts_go (above_zero HTi.out) hn0 h))
                  have C2 := Lib.hid (fun W (h : LM w (Thr a b P P M mc j m) W) => thr_rb h (fun F h => pts_go (above_zero HTi.out) hn0 h))
                  have C3 := Lib.hid (fun W (h : LM w (Thr a b P P M mc j m) W) => thr_ra h (fun F h => range_go x y hL1 hn1 h))
                  have C4 := Lib.hid (fun W (h : LM w (Thr a b P P M mc j m) W) => thr_ra h (fun F h => range_go y z hL2 hn2 h))
                  have C5 := Lib.hid (fun W (h : LM w (Thr a b P P M mc j m) W) => thr_ra h (fun F h => range_go x z hL3 hn3 h))
                  have HN0 := Lib.hid hn0
                  have HN1 := Lib.hid hn1
                  have HN2 := Lib.hid hn2
                  have HN3 := Lib.hid hn3
                  rw [hn0] at hln
                  have hb0 : n0 ≤ 400 := by omega
                  clear hn0 hL1 hL2 hL3 hn1 hn2 hn3 hln
                  go_wp2_with fail
                  refine (C1.out _ HT.out).mono ?_
                  rintro e w5 ⟨A1, c1, rfl, r1, h5⟩
                  have HR1 := Lib.hid r1
                  replace HT := Lib.hid (HT.out.go (thr_obj _ _ _ _ _ _ _ _) h5)
                  clear r1 h5
                  go_wp2_with fail
                  refine (C2.out _ HT.out).mono ?_
                  rintro e w6 ⟨A2, c2, rfl, r2, h5⟩
                  replace HT := Lib.hid (HT.out.go (thr_obj _ _ _ _ _ _ _ _) h5)
                  have HKp := Lib.hid (kpts_any (or_below HR1.out h5) r2 HN0.out (by omega))
                  clear r2 h5 HR1
                  go_wp2_with fail
                  refine HKp.out.mono ?_
                  rintro e w7 ⟨rfl, h5⟩
                  replace HT := Lib.hid (HT.out.go (thr_obj _ _ _ _ _ _ _ _) h5)
                  clear h5 HKp
                  go_wp2_with fail
                  refine (C3.out _ HT.out).mono ?_
                  rintro e w8 ⟨A3, c3, rfl, r1, h5⟩
                  have HT2 := Lib.hid (HT.out.own (thr_obj _ _ _ _ _ _ _ _) h5 r1 (Nat.le_refl _))
                  clear r1 h5 HT
                  go_wp2_with fail
                  refine (C4.out _ HT2.out.fst).mono ?_
                  rintro e w9 ⟨A4, c4, rfl, r2, h5⟩
                  have HT3 := Lib.hid (HT2.out.go (Star.obj (thr_obj _ _ _ _ _ _ _ _) (OwnO.obj _ _ _ _ _)) h5)
                  have HG : Hid (w9.ownsRow 0 45 3 (.slice A3 n1 c3) L1.length (pcs L1)) := Lib.hid (by rw [HN1.out]; exact HT3.out.got)
                  have HR2 : Hid (Reads w9 w9.heap.size 3 A4 L2.length (pcs L2)) := Lib.hid (by rw [HN2.out]; exact Reads.of_own r2)
                  clear r2 h5 HT2
                  go_wp2_with (at_builtin; go_loud (refine wpL_ptsG rfl _ _ rfl 0 _ L1 rfl HG.out _ _ _ L2 rfl HN2.out.symm HR2.out ?o3 (Nat.zero_le _) ?o5))
                  case o3 => rw [HN1.out, HN2.out]; omega
                  case o5 =>
                    intro v' w10 hO hg hv
                    rw [HN1.out, HN2.out] at hO
                    obtain ⟨A6, c6, rfl⟩ := or_form hO
                    have HT4 := Lib.hid (HT3.out.goes2 (thr_obj _ _ _ _ _ _ _ _) (fun G h => own_goes h hg hO hv))
                    clear hO hg hv HG HR2 HT3
                    go_wp2_with fail
                    refine (C5.out _ HT4.out.fst).mono ?_
                    rintro e w11 ⟨A7, c7, rfl, r5, h5⟩
                    have HT5 := Lib.hid (HT4.out.go (Star.obj (thr_obj _ _ _ _ _ _ _ _) (OwnO.obj _ _ _ _ _)) h5)
                    have HKp := Lib.hid (kpts_any HT5.out.got r5 HN3.out (by omega))
                    have HE := Lib.hid HT5.out.below
                    clear r5 h5 HT4 HT5
                    go_wp2_with fail
                    refine HKp.out.mono ?_
                    rintro e w12 ⟨rfl, h5⟩
                    have HE2 := Lib.hid (HE.out.trans (h5.mono HE.out.size))
                    clear h5 HE HKp
                    go_wp2_with fail
                    go_ret
                    exact ⟨rfl, HE2.out⟩
end Go.Proofs.Ytfblmmnofhkkaaa
