/- QueueParts, walked. -/
import Derived.Test.YtjnkcgegmffncaaQNl
import Derived.Test.YtjnkcgegmffncaaPkN
namespace Go.Proofs.Ytjnkcgegmffncaa
open Go.RowKit
theorem RvB.conv {B : Nat} {l : List UInt8} {v : Value} {W : World} (h : RvB B l v W) : (convert 48 9 v).run Try.prog W = .ok (.string ⟨l.toArray⟩) W := by
  obtain ⟨A, c, n, rfl, h2, h3⟩ := h
  exact conv_n h2 h3.rd
theorem smI_mk {x : It} (h : smI0 (itC x)) (h1 : In64 x.2.2.2.2.1) (h2 : ∀ c ∈ x.2.2.2.2.2.2.2.2.2, In64 c.2.1) : smI (itC x) :=
  ⟨h.1, h1, h.2.1, fun c hc => ⟨h.2.2 c hc, by obtain ⟨y, hy, rfl⟩ := List.mem_map.1 hc; exact h2 y hy⟩⟩
abbrev QQ (a b N : Nat) (Qa Qb : List ItC) : Ob := Star (QuO a N Qa) (QuO b N Qb)
theorem QQ.obj (a b N : Nat) (Qa Qb : List ItC) : Obj1 (QQ a b N Qa Qb) := Star.obj (QuO.obj _ _ _) (QuO.obj _ _ _)
/-- Take, of the first of two. -/
theorem qtake_lm2 {w0 w : World} {q N : Nat} {x0 : ItC} {Qr : List ItC} {B : Ob} (hB : Obj1 B) (h : LM w0 (Star (QuO q N (x0 :: Qr)) B) w) : Calls Try.prog 7 #[qptr q] w fun e w' => ∃ y : It, e = .returned (.tuple #[itA y, .int .i64 0]) ∧ itC y = x0 ∧ InIt w' (fun k => w.heap.size ≤ k) y ∧ LM w0 (Star (QuO q N Qr) B) w' := by
  obtain ⟨h1, F, ⟨F1, G1, g1, g2, g3, g4, g5⟩, h3⟩ := h
  refine (qtake_some g1).mono ?_
  rintro e w' ⟨y, e1, e2, e3, hg⟩
  obtain ⟨F', k1, k2, k3⟩ := Star.goes1 (H := F) hB g2 g3 g4 g5 hg
  refine ⟨y, e1, e2, e3, h1.trans (k3.below h3 h1.size), F', k1, fun k hk => ?_⟩
  rcases (k2 k hk).1 with hx | hx
  · exact h3 k hx
  · have := h1.size; omega
/-- Put, into the first of two, of items beside. -/
theorem qput_1 {w0 w W : World} {a b N n c : Nat} {Qa Qa' Qb : List ItC} {A : Option Addr} {X : List It} {x1 : Int} (hr : putR N Qa X = (x1, Qa')) (h : LM w0 (QQ a b N Qa Qb) w) (hb : Below w.heap.size w W) (hX : RdIts W (fun k => k < w0.heap.size ∨ w.heap.size ≤ k) A n X) (hn : n ≤ 1000000) :
    Calls Try.prog 9 #[qptr a, .slice A n c] W fun e w' => e = .returned (.int .i64 x1) ∧ LM w0 (QQ a b N Qa' Qb) w' :=
  h.turnF (R := fun e => e = .returned (.int .i64 x1)) (QQ.obj _ _ _ _ _) hb (fun _ ⟨_, _, h1, h2, h3, h4, h5⟩ hF => (qput_r hr h1 hX (fun k _ hk hf => by have := hF k (h4 k hf); rcases hk with hk | hk <;> omega) hn).mono fun _ _ ⟨x, y⟩ => ⟨x, Star.goes1 (QuO.obj _ _ _) h2 h3 h4 h5 y⟩)
theorem qput_2 {w0 w W : World} {a b N n c : Nat} {Qa Qb' Qb : List ItC} {A : Option Addr} {X : List It} {x1 : Int} (hr : putR N Qb X = (x1, Qb')) (h : LM w0 (QQ a b N Qa Qb) w) (hb : Below w.heap.size w W) (hX : RdIts W (fun k => k < w0.heap.size ∨ w.heap.size ≤ k) A n X) (hn : n ≤ 1000000) :
    Calls Try.prog 9 #[qptr b, .slice A n c] W fun e w' => e = .returned (.int .i64 x1) ∧ LM w0 (QQ a b N Qa Qb') w' :=
  h.turnF (R := fun e => e = .returned (.int .i64 x1)) (QQ.obj _ _ _ _ _) hb (fun _ ⟨_, _, h1, h2, h3, h4, h5⟩ hF => (qput_r hr h2 hX (fun k _ hk hf => by have := hF k (h5 k hf); rcases hk with hk | hk <;> omega) hn).mono fun _ _ ⟨x, y⟩ => ⟨x, Star.goes2 (QuO.obj _ _ _) h1 h3 h4 h5 y⟩)
theorem put_in {N : Nat} {Q : List ItC} {x : It} (h : okI x = true) (hl : Q.length < N) : putR N Q [x] = (0, Q ++ [itC x]) := by
  unfold putR
  rw [if_neg (by simp [h]), if_neg (by simp; omega)]; rfl
theorem put_full {N : Nat} {Q : List ItC} {x : It} (h : okI x = true) (hl : Q.length = N) : putR N Q [x] = (9, Q) := by
  unfold putR
  rw [if_neg (by simp [h]), if_pos (by simp; omega)]
set_option maxHeartbeats 16000000 in
set_option maxRecDepth 100000 in
theorem qparts_any {w : World} {n c : Nat} {A : Option Addr} {X : List It} {rm : Int} (hX : RdI0 w (fun k => k < w.heap.size) A n X) (h64 : ∀ x ∈ X, In64 x.2.2.2.2.1 ∧ ∀ c ∈ x.2.2.2.2.2.2.2.2.2, In64 c.2.1) :
    Calls Try.prog 4 #[.int .i64 rm, .slice A n c] w fun e w' => e = .returned (.bool true) ∧ Below w.heap.size w w' := by
  have HX0 := Lib.hid hX
  have H64 := Lib.hid h64
  clear hX h64
  go_enter Try.func4, Try.ntmps4
  go_wp2_with fail
  refine (lives_any w).mono ?_
  rintro e w1 ⟨rfl, hb1⟩
  have HB1 := Lib.hid hb1
  clear hb1
  go_wp2_with fail
  have HBk := newB w1 (.cells #[.bool false, .slice A n c] 26)
  have HB2 := Lib.hid (below_alloc HB1.out (.cells #[.bool false, .slice A n c] 26))
  refine (light_one HBk (HX0.out.below HB2.out) (P := n ≤ 100 ∧ ∀ x ∈ X, smI0 (itC x)) (fun h1 h2 => ⟨h1, h2⟩)).mono ?_
  rintro e w3 ⟨b, rfl, hb, hb3⟩
  have HB3 := Lib.hid (HB2.out.trans (hb3.mono HB2.out.size))
  have HP := Lib.hid hb
  clear hb hb3 HBk HB2 HB1
  cases b
  · go_wp2_with fail
    go_ret
    exact ⟨rfl, HB3.out⟩
  obtain ⟨hn, hsm0⟩ := HP.out (by first | rfl | trivial)
  have HX := Lib.hid (HX0.out.its_ (fun x hx => smI_mk (hsm0 x hx) (H64.out x hx).1 (H64.out x hx).2))
  clear hsm0 HP H64 HX0
  go_wp2_with fail
  go_loopw [5] (fun v wr => ∃ j : Nat, v = .int .i64 (j : Int) ∧ j ≤ n ∧ Hid ((X.take j).all okI = true) ∧ Hid (Below w.heap.size w wr)) (fun v _ => n - (intOf v).toNat)
  case atStart => exact ⟨0, rfl, Nat.zero_le _, Lib.hid rfl, Lib.hid HB3.out⟩
  case round =>
    obtain ⟨j, rfl, hj, HT, HB⟩ := hrel
    clear HB3
    by_cases h0 : j < n
    · skip
      have hkX : j < X.length := by rw [HX.out.len]; exact h0
      obtain ⟨ad, rfl, _⟩ := HX.out.some_ (by omega)
      obtain ⟨⟨k, m, ⟨la, lc, L⟩, t, nn, tm, bt, ca, cc, C⟩, hx⟩ : ∃ x, X[j] = x := ⟨_, rfl⟩
      have hin := (HX.out.below HB.out).its _ (List.getElem_mem hkX)
      have hsm := HX.out.sm _ (List.getElem_mem hkX)
      rw [hx] at hin hsm
      simp only at hin
      obtain ⟨b1, b2, b3⟩ := it_bd rfl hsm
      obtain ⟨c0, c1, c2, c3, c4, c5, c6, c7⟩ := (HX.out.below HB.out).at_ hkX hx
      obtain ⟨l1, hl1⟩ : ∃ n, L.length = n := ⟨_, rfl⟩
      obtain ⟨l2, hl2⟩ : ∃ n, C.length = n := ⟨_, rfl⟩
      rw [hl1] at c2
      rw [hl2] at c7
      have HT1 : Hid (X.take (j + 1) = X.take j ++ [(k, m, (la, lc, L), t, nn, tm, bt, ca, cc, C)]) := Lib.hid (by rw [← hx]; exact (List.take_append_getElem hkX).symm)
      have hw : IntKind.i64.wrap ((j : Int) + 1) = ((j + 1 : Nat) : Int) := by rw [IntKind.wrap_i64]; omega
      have hkI : (j : Int) < (n : Int) := by omega
      have HA := Lib.hid (below_alloc (Below.refl (wr).heap.size wr) (.cells #[.int .i64 k, .string m, .slice la l1 lc, .int .i64 t, .int .i64 nn, .int .i64 tm, .int .i64 bt, .slice ca l2 cc] 38))
      have HXI := Lib.hid (newB wr (.cells #[.int .i64 k, .string m, .slice la l1 lc, .int .i64 t, .int .i64 nn, .int .i64 tm, .int .i64 bt, .slice ca l2 cc] 38))
      have CC := Lib.hid (checkI_any (k := k) (m := m) (t := t) (n := nn) (tm := tm) (bt := bt) (lc := lc) (cc := cc) (w := wr) hl1 hin.lab (by have := hin.chg; rw [hl2] at this; exact this) (by omega) (by omega) b3)
      obtain ⟨s, hs⟩ : ∃ s, itE (k, m, L, t, nn, tm, bt, C.map cgC) = s := ⟨_, rfl⟩
      have hs2 := itE_two (k, m, L, t, nn, tm, bt, C.map cgC)
      rw [hs] at CC hs2
      have hok : okI (k, m, (la, lc, L), t, nn, tm, bt, ca, cc, C) = decide (s = 0) := by unfold okI; rw [itC_mk, hs]
      have HOK := Lib.hid hok
      have HS2 := Lib.hid hs2
      clear hkX hx hin hsm b1 b2 b3 hl1 hl2 hs hok hs2 HA HXI
      go_wp2_with fail
      clear c0 c1 c2 c3 c4 c5 c6 c7
      refine CC.out.mono ?_
      rintro e w2 ⟨rfl, hb2⟩
      have HB2 := Lib.hid (HB.out.trans (hb2.mono HB.out.size))
      clear hb2 CC
      by_cases hs0 : s = 0
      · have hok2 := HOK.out
        rw [decide_eq_true hs0] at hok2
        subst hs0
        have HOK2 := Lib.hid hok2
        clear hok2 HOK HS2
        go_wp2_with fail
        go_roundw
        case rel => exact ⟨j + 1, by go_num, by omega, Lib.hid (by rw [HT1.out, List.all_append, HT.out, List.all_cons, HOK2.out]; rfl), HB2⟩
        case measure => simp [intOf]; omega
      · obtain rfl : s = 2 := HS2.out.resolve_left hs0
        clear hs0 HOK HS2
        go_wp2_with fail
        go_ret
        exact ⟨rfl, HB2.out⟩
    · obtain rfl : j = n := by omega
      have hkI : ¬ (j : Int) < (j : Int) := by omega
      have hall : X.all okI = true := by have := HT.out; rwa [List.take_of_length_le (by rw [HX.out.len]; exact Nat.le_refl _)] at this
      have HAll := Lib.hid hall
      obtain ⟨pk, hpk⟩ : ∃ pk, pickN rm 100 = pk := ⟨_, rfl⟩
      have hpi := pickN_in rm (m := 100) (by decide)
      have CPk := Lib.hid (fun W => pick_any rm 100 (by decide) W)
      rw [hpk] at CPk hpi
      obtain ⟨N, hN⟩ : ∃ N : Nat, pk + 1 = (N : Int) := ⟨(pk + 1).toNat, by omega⟩
      have hN1 : 1 ≤ N := by omega
      have hN2 : N ≤ 100 := by omega
      have hwN : IntKind.i64.wrap (pk + 1) = (N : Int) := by rw [IntKind.wrap_i64]; omega
      have CN := Lib.hid (fun W => qnew_any (N := N) hN1 (by omega) W)
      clear hall HT hpi hpk hN
      go_wp2_with fail
      refine (CPk.out _).mono ?_
      rintro e w2 ⟨rfl, rfl⟩
      clear CPk
      go_wp2_with fail
      refine (CN.out _).mono ?_
      rintro e w4 ⟨qa, rfl, hqa, hqo, hb4⟩
      have HS1 := Lib.hid (LM.first HB.out hb4 hqo (fun k h => h))
      clear hb4 hqo hqa
      go_wp2_with fail
      refine (CN.out _).mono ?_
      rintro e w5 ⟨qb, rfl, hqb, hqo, hb5⟩
      have HS : Hid (LM w (QQ qa qb N [] []) w5) := Lib.hid (HS1.out.more (QuO.obj _ _ _) hb5 hqo (fun k h => h))
      clear hb5 hqo hqb HS1 CN HB
      go_wp2_with fail
      go_loopw [11] (fun v wr => ∃ i : Nat, v = .int .i64 (i : Int) ∧ i ≤ j ∧ Hid (LM w (QQ qa qb N ((X.take (min i N)).map itC) []) wr)) (fun v _ => j - (intOf v).toNat)
      case atStart => exact ⟨0, rfl, Nat.zero_le _, Lib.hid (by simpa using HS.out)⟩
      case round =>
        clear HS
        obtain ⟨i, rfl, hi, HS⟩ := hrel
        by_cases h0 : i < j
        · skip
          have hkX : i < X.length := by rw [HX.out.len]; exact h0
          obtain ⟨ad, rfl, _⟩ := HX.out.some_ (by omega)
          obtain ⟨⟨k, m, ⟨la, lc, L⟩, t, nn, tm, bt, ca, cc, C⟩, hx⟩ : ∃ x, X[i] = x := ⟨_, rfl⟩
          have hin := (HX.out.below HS.out.below).its _ (List.getElem_mem hkX)
          have hsm := HX.out.sm _ (List.getElem_mem hkX)
          rw [hx] at hin hsm
          simp only at hin
          obtain ⟨b1, b2, b3⟩ := it_bd rfl hsm
          obtain ⟨c0, c1, c2, c3, c4, c5, c6, c7⟩ := (HX.out.below HS.out.below).at_ hkX hx
          obtain ⟨l1, hl1⟩ : ∃ n, L.length = n := ⟨_, rfl⟩
          obtain ⟨l2, hl2⟩ : ∃ n, C.length = n := ⟨_, rfl⟩
          rw [hl1] at c2
          rw [hl2] at c7
          have HT1 : Hid (X.take (i + 1) = X.take i ++ [(k, m, (la, lc, L), t, nn, tm, bt, ca, cc, C)]) := Lib.hid (by rw [← hx]; exact (List.take_append_getElem hkX).symm)
          have hw : IntKind.i64.wrap ((i : Int) + 1) = ((i + 1 : Nat) : Int) := by rw [IntKind.wrap_i64]; omega
          have hkI : (i : Int) < (j : Int) := by omega
          have HA := Lib.hid (below_alloc (Below.refl (wr).heap.size wr) (.cells #[.int .i64 k, .string m, .slice la l1 lc, .int .i64 t, .int .i64 nn, .int .i64 tm, .int .i64 bt, .slice ca l2 cc] 38))
          have HXI := Lib.hid (newB wr (.cells #[.int .i64 k, .string m, .slice la l1 lc, .int .i64 t, .int .i64 nn, .int .i64 tm, .int .i64 bt, .slice ca l2 cc] 38))
          have hokx : okI (k, m, (la, lc, L), t, nn, tm, bt, ca, cc, C) = true := List.all_eq_true.1 HAll.out _ (by rw [← hx]; exact List.getElem_mem hkX)
          have HRw : Hid (RdIts (wr.alloc (.cells #[.int .i64 k, .string m, .slice la l1 lc, .int .i64 t, .int .i64 nn, .int .i64 tm, .int .i64 bt, .slice ca l2 cc] 38)) (fun k => k < w.heap.size ∨ wr.heap.size ≤ k) (some ⟨wr.heap.size, 0, none⟩) 1 [(k, m, (la, lc, L), t, nn, tm, bt, ca, cc, C)]) := Lib.hid (by
            subst hl1 hl2
            refine rdits_lit (X := [(k, m, (la, lc, L), t, nn, tm, bt, ca, cc, C)]) HXI.out rfl _ (.inr (Nat.le_refl _)) (fun x hx2 => ?_)
            rw [List.mem_singleton.1 hx2]
            exact ⟨(hin.below HA.out).weak (fun i _ hi => .inl hi), hsm⟩)
          have HOK := Lib.hid hokx
          have HLen := Lib.hid HX.out.len
          clear hkX hx hin hsm b1 b2 b3 hl1 hl2 hokx HXI
          by_cases hiN : i < N
          · have hmin : min i N = i := by omega
            rw [hmin] at HS
            have hr := put_in (N := N) (Q := (X.take i).map itC) HOK.out (by rw [List.length_map, List.length_take]; omega)
            have hiI : (i : Int) < (N : Int) := by omega
            have CP := Lib.hid (qput_1 (c := 1) hr HS.out HA.out HRw.out (by decide))
            clear hr hmin HRw
            go_wp2_with fail
            clear c0 c1 c2 c3 c4 c5 c6 c7
            refine CP.out.mono ?_
            rintro e w6 ⟨rfl, h6⟩
            have HS6 := Lib.hid h6
            clear h6 CP HS HA
            go_wp2_with fail
            go_roundw
            case rel => exact ⟨i + 1, by go_num, by omega, Lib.hid (by have := HS6.out; rw [show min (i + 1) N = i + 1 by omega, HT1.out, List.map_append]; exact this)⟩
            case measure => simp [intOf]; omega
          · have hmin : min i N = N := by omega
            rw [hmin] at HS
            have hr := put_full (N := N) (Q := (X.take N).map itC) HOK.out (by rw [List.length_map, List.length_take, HLen.out]; omega)
            have hiI : ¬ (i : Int) < (N : Int) := by omega
            have hiD : decide (i < N) = false := by simpa using hiN
            have CP := Lib.hid (qput_1 (c := 1) hr HS.out HA.out HRw.out (by decide))
            clear hr hmin HRw
            go_wp2_with fail
            clear c0 c1 c2 c3 c4 c5 c6 c7
            refine CP.out.mono ?_
            rintro e w6 ⟨rfl, h6⟩
            have HS6 := Lib.hid h6
            clear h6 CP HS HA
            go_wp2_with fail
            go_roundw
            case rel => exact ⟨i + 1, by go_num, by omega, Lib.hid (by have := HS6.out; rw [show min (i + 1) N = N by omega]; exact this)⟩
            case measure => simp [intOf]; omega
        · obtain rfl : i = j := by omega
          have hkI : ¬ (i : Int) < (i : Int) := by omega
          obtain ⟨Qa, hQa⟩ : ∃ Q, (X.take (min i N)).map itC = Q := ⟨_, rfl⟩
          rw [hQa] at HS
          have HQa := Lib.hid hQa
          obtain ⟨m5, hm5⟩ : ∃ m, quB N [] = m := ⟨_, rfl⟩
          have HM := Lib.hid hm5
          have CB : Hid (Calls Try.prog 14 #[qptr qb] wr (FreshB wr m5)) := Lib.hid (HM.out ▸ HS.out.read2 (fun F h => qbytes_any h (fun x hx => (by cases hx)) (by simp)))
          clear hQa hm5
          go_wp2_with fail
          refine CB.out.mono ?_
          rintro e w6 h6
          obtain ⟨v6, rfl, hv6, hb6⟩ := h6.rv (Nat.le_refl _)
          have kc := hv6.conv
          replace HS := Lib.hid (HS.out.go (QQ.obj _ _ _ _ _) hb6)
          clear CB h6 hv6 hb6
          have HO : Hid ((w6.alloc (.cells #[] 38)).ownsRow w6.heap.size 38 8 (.slice (some ⟨w6.heap.size, 0, none⟩) 0 0) 0 (itF [])) := Lib.hid (World.ownsRow_lit w6 (base := w6.heap.size) (e := 38) (size := 8) #[] 0 (Nat.le_refl _) (by decide) rfl)
          have HB8 := Lib.hid (below_alloc (Below.refl w6.heap.size w6) (.cells #[] 38))
          have HRd := Lib.hid ((HX.out.below (HS.out.below.trans (HB8.out.mono HS.out.below.size))).row)
          have HS8 := Lib.hid HB8.out.size
          go_wp2_with (at_builtin; go_loud (refine wpL_its rfl _ _ rfl w6.heap.size _ [] 0 rfl HO.out _ _ _ X rfl HRd.out (by omega) HS8.out ?o5))
          case o5 =>
            intro v' w9 HO' hg _
            have HB9 := Lib.hid (HB8.out.grown hg HB8.out.size (fun k e => (World.ownsRow.lt HO.out k e).1))
            have HX9 : Hid (RdIts w9 (fun k => k < w.heap.size) A i X) := Lib.hid (HX.out.below (HS.out.below.trans (HB9.out.mono HS.out.below.size)))
            obtain ⟨A9, c9, rfl⟩ := or_form HO'
            have HRw : Hid (RdIts w9 (fun k => k < w.heap.size ∨ w6.heap.size ≤ k) A9 i X) := Lib.hid ⟨HX.out.len, Reads.of_own HO', fun _ ad e => .inr ((HO'.lt ad.block (by rw [e]; rfl)).1), fun x hx => (HX9.out.its x hx).weak (fun i _ hi => .inl hi), HX.out.sm⟩
            clear HO' hg HRd HO HB8 HS8 HX9 kc
            by_cases hbig : N < i
            · have hbI : (N : Int) < (i : Int) := by omega
              have hr : putR N [] X = (9, []) := by
                unfold putR
                rw [if_neg (by rw [HAll.out]; simp), if_pos (by rw [HX.out.len]; simpa using hbig)]
              have CP := Lib.hid (qput_2 (c := c9) hr HS.out HB9.out HRw.out (by omega))
              clear hr HRw
              go_wp2_with fail
              refine CP.out.mono ?_
              rintro e w10 ⟨rfl, h6⟩
              replace HS := Lib.hid h6
              have CB2 : Hid (Calls Try.prog 14 #[qptr qb] w10 (FreshB w10 m5)) := Lib.hid (HM.out ▸ HS.out.read2 (fun F h => qbytes_any h (fun x hx => (by cases hx)) (by simp)))
              clear h6 CP HB9
              go_wp2_with fail
              refine CB2.out.mono ?_
              rintro e w11 h6
              obtain ⟨v11, rfl, hv6, hb6⟩ := h6.rv (Nat.le_refl _)
              have kc := hv6.conv
              replace HS := Lib.hid (HS.out.go (QQ.obj _ _ _ _ _) hb6)
              clear CB2 h6 hv6 hb6
              go_wp2_with fail
              refine (HS.out.read2 (fun F h => qlen_any (n := 0) h rfl)).mono ?_
              rintro e w12 ⟨rfl, rfl⟩
              go_wp2_with fail
              go_ret
              exact ⟨rfl, HS.out.below⟩
            · have hbI : ¬ (N : Int) < (i : Int) := by omega
              have hbD : decide (N < i) = false := by simpa using hbig
              have hr : putR N [] X = (0, X.map itC) := by
                unfold putR
                rw [if_neg (by rw [HAll.out]; simp), if_neg (by rw [HX.out.len]; simpa using hbig)]; rfl
              have CP := Lib.hid (qput_2 (c := c9) hr HS.out HB9.out HRw.out (by omega))
              obtain rfl : X.map itC = Qa := by
                have := HQa.out
                rwa [show min i N = i by omega, List.take_of_length_le (by rw [HX.out.len]; exact Nat.le_refl _)] at this
              clear hr HRw HQa
              go_wp2_with fail
              refine CP.out.mono ?_
              rintro e w10 ⟨rfl, h6⟩
              replace HS := Lib.hid h6
              clear h6 CP HB9
              go_wp2_with fail
              have hoks : ∀ x ∈ X.map itC, itE x = 0 := fun x hx => by
                obtain ⟨y, hy, rfl⟩ := List.mem_map.1 hx
                have := List.all_eq_true.1 HAll.out y hy
                unfold okI at this
                exact of_decide_eq_true this
              have hlen4 : (X.map itC).length ≤ 400 := by rw [List.length_map, HX.out.len]; omega
              obtain ⟨m7, hm7⟩ : ∃ m, quB N (X.map itC) = m := ⟨_, rfl⟩
              have CA : Hid (∀ W, Below w10.heap.size w10 W → Calls Try.prog 14 #[qptr qa] W (FreshB W m7)) := Lib.hid (fun W hb => hm7 ▸ (HS.out.go (QQ.obj _ _ _ _ _) hb).read1 (fun F h => qbytes_any h hoks hlen4))
              have CB2 : Hid (∀ W, Below w10.heap.size w10 W → Calls Try.prog 14 #[qptr qb] W (FreshB W m7)) := Lib.hid (fun W hb => hm7 ▸ (HS.out.go (QQ.obj _ _ _ _ _) hb).read2 (fun F h => qbytes_any h hoks hlen4))
              clear hoks hlen4 hm7
              refine wp_region_fork 11 (.q 0 (.q 1 (.q 2 (.q 3 (.q 6 (.alt 4 (.q 5 (.alt 7 (.q 8 (.q 9 (.q 10 .nil))) .stop)) .stop)))))) (Below w10.heap.size w10) Triv (by kernel_rfl) (by kernel_rfl) (Stab.below _ _ (Nat.le_refl _)) TB.stab ((Below.refl _ _).drew) (triv _) ?_
              repeat (first | (refine wf_q rfl rfl ?_; apply Exists.intro; refine ⟨fun w' hw' => ?_, fun K hK => ?_⟩; (focus ((skip); go_simp; first | exact quiet_value | fail)); simp only [Act.put, List.setIfInBounds_toArray, List.set_cons_zero, List.set_cons_succ]; refine hK.out _ ?_; clear hK K) | (refine wf_skip rfl rfl (fun K hK => ?_); simp only [Act.put, List.setIfInBounds_toArray, List.set_cons_zero, List.set_cons_succ]; refine hK.out _ ?_; clear hK K) | (refine wf_skipu rfl rfl (fun K hK => ?_); simp only [Act.put, List.setIfInBounds_toArray, List.set_cons_zero, List.set_cons_succ]; refine hK.out _ ?_; clear hK K))
              refine wf_step (RvB w10.heap.size (m7)) (fun _ => Triv) (RvB.stab _ _) (fun _ => TB.stab) rfl rfl (fun w' hc hd => ?_) (fun K hK v => ?_) wf_stop
              focus
                have HC := Lib.hid hc
                clear hc hd
                skip
                go_simp
                refine st_enter ?_
                exact (CA.out _ HC.out).mono fun e W' h => by
                  obtain ⟨u, h1, h2, h3⟩ := h.rv (B := w10.heap.size) (by first | exact HC.out.size | exact HC.out.1.size | exact HC.out.1.1.size)
                  exact ⟨u, h1, by first | exact HC.out.trans (h3.mono HC.out.size) | exact ⟨HC.out.1.trans (h3.mono HC.out.1.size), RvB.stab _ _ _ _ _ HC.out.2 h3⟩ | exact ⟨⟨HC.out.1.1.trans (h3.mono HC.out.1.1.size), RvB.stab _ _ _ _ _ HC.out.1.2 h3⟩, RvB.stab _ _ _ _ _ HC.out.2 h3⟩, h2, triv _⟩
              simp only [Act.put, List.setIfInBounds_toArray, List.set_cons_zero, List.set_cons_succ]
              refine hK.out _ _ _ ?_
              clear hK K
              repeat (first | (refine wf_q rfl rfl ?_; apply Exists.intro; refine ⟨fun w' hw' => ?_, fun K hK => ?_⟩; (focus ((have kc := RvB.conv hw'.2); go_simp; first | exact quiet_value | fail)); simp only [Act.put, List.setIfInBounds_toArray, List.set_cons_zero, List.set_cons_succ]; refine hK.out _ ?_; clear hK K) | (refine wf_skip rfl rfl (fun K hK => ?_); simp only [Act.put, List.setIfInBounds_toArray, List.set_cons_zero, List.set_cons_succ]; refine hK.out _ ?_; clear hK K) | (refine wf_skipu rfl rfl (fun K hK => ?_); simp only [Act.put, List.setIfInBounds_toArray, List.set_cons_zero, List.set_cons_succ]; refine hK.out _ ?_; clear hK K))
              refine wf_step (RvB w10.heap.size (m7)) (fun _ => Triv) (RvB.stab _ _) (fun _ => TB.stab) rfl rfl (fun w' hc hd => ?_) (fun K hK v => ?_) wf_stop
              focus
                have HC := Lib.hid hc
                clear hc hd
                skip
                go_simp
                refine st_enter ?_
                exact (CB2.out _ HC.out.1).mono fun e W' h => by
                  obtain ⟨u, h1, h2, h3⟩ := h.rv (B := w10.heap.size) (by first | exact HC.out.size | exact HC.out.1.size | exact HC.out.1.1.size)
                  exact ⟨u, h1, by first | exact HC.out.trans (h3.mono HC.out.size) | exact ⟨HC.out.1.trans (h3.mono HC.out.1.size), RvB.stab _ _ _ _ _ HC.out.2 h3⟩ | exact ⟨⟨HC.out.1.1.trans (h3.mono HC.out.1.1.size), RvB.stab _ _ _ _ _ HC.out.1.2 h3⟩, RvB.stab _ _ _ _ _ HC.out.2 h3⟩, h2, triv _⟩
              simp only [Act.put, List.setIfInBounds_toArray, List.set_cons_zero, List.set_cons_succ]
              refine hK.out _ _ _ ?_
              clear hK K
              repeat (first | (refine wf_q rfl rfl ?_; apply Exists.intro; refine ⟨fun w' hw' => ?_, fun K hK => ?_⟩; (focus ((have k1 := RvB.conv hw'.1.2; have k2 := RvB.conv hw'.2); go_simp; first | exact quiet_value | fail)); simp only [Act.put, List.setIfInBounds_toArray, List.set_cons_zero, List.set_cons_succ]; refine hK.out _ ?_; clear hK K) | (refine wf_skip rfl rfl (fun K hK => ?_); simp only [Act.put, List.setIfInBounds_toArray, List.set_cons_zero, List.set_cons_succ]; refine hK.out _ ?_; clear hK K) | (refine wf_skipu rfl rfl (fun K hK => ?_); simp only [Act.put, List.setIfInBounds_toArray, List.set_cons_zero, List.set_cons_succ]; refine hK.out _ ?_; clear hK K))
              refine wf_nil ?_
              rintro w11 ⟨⟨hb11, _⟩, _⟩ _
              replace HS := Lib.hid (HS.out.go (QQ.obj _ _ _ _ _) hb11)
              clear hb11 CA CB2
              (try simp only [List.drop_succ_cons]); (try simp only [List.drop_zero]); (try simp only [List.drop_nil])
              go_wp2_with fail
              go_loopw [13] (fun v wr => ∃ y : Nat, v = .int .i64 (y : Int) ∧ y ≤ i ∧ Hid (LM w (QQ qa qb N ((X.drop y).map itC) (X.map itC)) wr)) (fun v _ => i - (intOf v).toNat)
              case atStart => exact ⟨0, rfl, Nat.zero_le _, Lib.hid (by simpa using HS.out)⟩
              case round =>
                clear HS
                obtain ⟨y, rfl, hy, HS⟩ := hrel
                by_cases h0 : y < i
                · have hyX : y < X.length := by rw [HX.out.len]; exact h0
                  have hdr : (X.drop y).map itC = itC X[y] :: (X.drop (y + 1)).map itC := by rw [List.drop_eq_getElem_cons hyX]; rfl
                  rw [hdr] at HS
                  have hkI : (y : Int) < (i : Int) := by omega
                  clear hdr
                  go_wp2_with fail
                  refine (qtake_lm2 (QuO.obj _ _ _) HS.out).mono ?_
                  rintro e w5 ⟨⟨k1, n1, ⟨la1, lc1, L1⟩, t1, z1, tm1, bt1, ca1, cc1, C1⟩, rfl, hq, hqi, h5⟩
                  replace HS := Lib.hid h5
                  have HQ := Lib.hid hq
                  have HQI := Lib.hid hqi
                  simp only [itA, lsV]
                  obtain ⟨p1, hp1⟩ : ∃ n, L1.length = n := ⟨_, rfl⟩
                  obtain ⟨p2, hp2⟩ : ∃ n, C1.length = n := ⟨_, rfl⟩
                  rw [hp1, hp2]
                  have HP1 := Lib.hid hp1
                  have HP2 := Lib.hid hp2
                  clear hq hqi h5 hp1 hp2
                  go_wp2_with fail
                  have HXx := Lib.hid (newB w5 (.cells #[.int .i64 k1, .string n1, .slice la1 p1 lc1, .int .i64 t1, .int .i64 z1, .int .i64 tm1, .int .i64 bt1, .slice ca1 p2 cc1] 38))
                  have HAx := Lib.hid (below_alloc (Below.refl w5.heap.size w5) (.cells #[.int .i64 k1, .string n1, .slice la1 p1 lc1, .int .i64 t1, .int .i64 z1, .int .i64 tm1, .int .i64 bt1, .slice ca1 p2 cc1] 38))
                  replace HS := Lib.hid (HS.out.go (QQ.obj _ _ _ _ _) HAx.out)
                  obtain ⟨w6, hw6⟩ : ∃ w6, w5.alloc (.cells #[.int .i64 k1, .string n1, .slice la1 p1 lc1, .int .i64 t1, .int .i64 z1, .int .i64 tm1, .int .i64 bt1, .slice ca1 p2 cc1] 38) = w6 := ⟨_, rfl⟩
                  rw [hw6] at HXx HS HAx ⊢
                  clear hw6
                  have hkX : y < X.length := by rw [HX.out.len]; exact h0
                  obtain ⟨ad, rfl, _⟩ := HX.out.some_ (by omega)
                  obtain ⟨⟨k, m, ⟨la, lc, L⟩, t, nn, tm, bt, ca, cc, C⟩, hx⟩ : ∃ x, X[y] = x := ⟨_, rfl⟩
                  have hin := (HX.out.below HS.out.below).its _ (List.getElem_mem hkX)
                  have hsm := HX.out.sm _ (List.getElem_mem hkX)
                  rw [hx] at hin hsm
                  simp only at hin
                  obtain ⟨b1, b2, b3⟩ := it_bd rfl hsm
                  obtain ⟨c0, c1, c2, c3, c4, c5, c6, c7⟩ := (HX.out.below HS.out.below).at_ hkX hx
                  obtain ⟨l1, hl1⟩ : ∃ n, L.length = n := ⟨_, rfl⟩
                  obtain ⟨l2, hl2⟩ : ∃ n, C.length = n := ⟨_, rfl⟩
                  rw [hl1] at c2
                  rw [hl2] at c7
                  have HT1 : Hid (X.take (y + 1) = X.take y ++ [(k, m, (la, lc, L), t, nn, tm, bt, ca, cc, C)]) := Lib.hid (by rw [← hx]; exact (List.take_append_getElem hkX).symm)
                  have hw : IntKind.i64.wrap ((y : Int) + 1) = ((y + 1 : Nat) : Int) := by rw [IntKind.wrap_i64]; omega
                  have hkI : (y : Int) < (i : Int) := by omega
                  have HA := Lib.hid (below_alloc (Below.refl (w6).heap.size w6) (.cells #[.int .i64 k, .string m, .slice la l1 lc, .int .i64 t, .int .i64 nn, .int .i64 tm, .int .i64 bt, .slice ca l2 cc] 38))
                  have HXI := Lib.hid (newB w6 (.cells #[.int .i64 k, .string m, .slice la l1 lc, .int .i64 t, .int .i64 nn, .int .i64 tm, .int .i64 bt, .slice ca l2 cc] 38))
                  clear HXI HA HT1 c0 c1 c2 c3 c4 c5 c6 c7
                  have hyE : (k1, n1, L1, t1, z1, tm1, bt1, C1.map cgC) = (k, m, L, t, nn, tm, bt, C.map cgC) := by have := HQ.out; rw [hx] at this; exact this
                  obtain ⟨a1, a2, a3⟩ := it_bd HQ.out (HX.out.sm _ (List.getElem_mem hkX))
                  have HC8 : Hid (∀ W, Below w6.heap.size w6 W → _) := Lib.hid (fun W (hb : Below w6.heap.size w6 W) => ((HX.out.below HS.out.below).below hb).at_ hkX hx)
                  rw [hl1, hl2] at HC8
                  have CS : Hid (∀ W, Below w6.heap.size w6 W → Calls Try.prog 18 #[.agg #[.int .i64 k1, .string n1, .slice la1 p1 lc1, .int .i64 t1, .int .i64 z1, .int .i64 tm1, .int .i64 bt1, .slice ca1 p2 cc1], .agg #[.int .i64 k, .string m, .slice la l1 lc, .int .i64 t, .int .i64 nn, .int .i64 tm, .int .i64 bt, .slice ca l2 cc]] W fun e w' => e = .returned (.bool true) ∧ Below W.heap.size W w') := Lib.hid (fun W hb => by
                    have h1 := (HQI.out.below HAx.out).below hb
                    have h2 := hin.below hb
                    have := sameI_any (k1 := k1) (m1 := n1) (lc1 := lc1) (t1 := t1) (n1 := z1) (tm1 := tm1) (bt1 := bt1) (cc1 := cc1) (k2 := k) (m2 := m) (lc2 := lc) (t2 := t) (n2 := nn) (tm2 := tm) (bt2 := bt) (cc2 := cc) HP1.out hl1 h1.lab h2.lab (HP2.out ▸ h1.chg) (hl2 ▸ h2.chg) (HP1.out ▸ a1) (HP2.out ▸ a2) a3
                    rw [eqI_iff.2 hyE] at this
                    exact this)
                  obtain ⟨m1, hm1⟩ : ∃ x, N - i = x := ⟨_, rfl⟩
                  obtain ⟨m2, hm2⟩ : ∃ x, m1 + y = x := ⟨_, rfl⟩
                  obtain ⟨m3, hm3⟩ : ∃ x, m2 + 1 = x := ⟨_, rfl⟩
                  have hw1 : IntKind.i64.wrap ((N : Int) - (i : Int)) = (m1 : Int) := by rw [IntKind.wrap_i64]; omega
                  have hw2 : IntKind.i64.wrap ((m1 : Int) + (y : Int)) = (m2 : Int) := by rw [IntKind.wrap_i64]; omega
                  have hw3 : IntKind.i64.wrap ((m2 : Int) + 1) = (m3 : Int) := by rw [IntKind.wrap_i64]; omega
                  have hrm : N = ((X.drop (y + 1)).map itC).length + m3 := by rw [List.length_map, List.length_drop]; have := HX.out.len; omega
                  have CRm := Lib.hid (fun W (hb : Below w6.heap.size w6 W) => (HS.out.go (QQ.obj _ _ _ _ _) hb).read1 (fun F h => qroom_any h hrm))
                  clear hm1 hm2 hm3 hrm hkX hx hin hsm b1 b2 b3 hl1 hl2 hyE a1 a2 a3 HQ HQI HP1 HP2 HAx
                  refine wp_region_fork 23 (.q 0 (.q 1 (.q 2 (.q 3 (.q 4 (.q 5 (.q 6 (.q 7 (.q 8 (.q 9 (.q 10 (.q 11 (.q 12 (.q 13 (.q 14 (.q 15 (.q 16 (.q 17 (.q 18 (.q 19 (.q 20 (.q 21 (.q 22 .nil))))))))))))))))))))))) (Below w6.heap.size w6) Triv (by kernel_rfl) (by kernel_rfl) (Stab.below _ _ (Nat.le_refl _)) TB.stab ((Below.refl _ _).drew) (triv _) ?_
                  repeat (first | (refine wf_q rfl rfl ?_; apply Exists.intro; refine ⟨fun w' hw' => ?_, fun K hK => ?_⟩; (focus ((obtain ⟨c0, c1, c2, c3, c4, c5, c6, c7⟩ := HC8.out _ hw'; have hxk := keepB HXx.out hw'; have d0 := cellAt (o := 0) hxk rfl; have d1 := cellAt (o := 1) hxk rfl; have d2 := cellAt (o := 2) hxk rfl; have d3 := cellAt (o := 3) hxk rfl; have d4 := cellAt (o := 4) hxk rfl; have d5 := cellAt (o := 5) hxk rfl; have d6 := cellAt (o := 6) hxk rfl; have d7 := cellAt (o := 7) hxk rfl; clear hxk); go_simp; first | exact quiet_value | with_reducible first | exact quiet_enter (CS.out _ hw') | exact quiet_enter (CRm.out _ hw'))); simp only [Act.put, List.setIfInBounds_toArray, List.set_cons_zero, List.set_cons_succ]; refine hK.out _ ?_; clear hK K) | (refine wf_skip rfl rfl (fun K hK => ?_); simp only [Act.put, List.setIfInBounds_toArray, List.set_cons_zero, List.set_cons_succ]; refine hK.out _ ?_; clear hK K) | (refine wf_skipu rfl rfl (fun K hK => ?_); simp only [Act.put, List.setIfInBounds_toArray, List.set_cons_zero, List.set_cons_succ]; refine hK.out _ ?_; clear hK K))
                  refine wf_nil ?_
                  rintro w7 hb7 _
                  replace HS := Lib.hid (HS.out.go (QQ.obj _ _ _ _ _) hb7)
                  clear hb7 CS CRm HC8 HXx
                  (try simp only [List.drop_succ_cons]); (try simp only [List.drop_zero]); (try simp only [List.drop_nil])
                  go_wp2_with fail
                  go_roundw
                  case rel => exact ⟨y + 1, by go_num, by omega, HS⟩
                  case measure => simp [intOf]; omega
                · obtain rfl : y = i := by omega
                  have hkI : ¬ (y : Int) < (y : Int) := by omega
                  have hd : X.drop y = [] := List.drop_eq_nil_of_le (by rw [HX.out.len]; exact Nat.le_refl _)
                  rw [hd, List.map_nil] at HS
                  clear hd
                  go_wp2_with fail
                  refine (HS.out.read1 (fun F h => qbytes_any h (fun x hx => (by cases hx)) (by simp))).mono ?_
                  rintro e w8 h6
                  rw [HM.out] at h6
                  obtain ⟨v8, rfl, hv6, hb6⟩ := h6.rv (Nat.le_refl _)
                  have kc := hv6.conv
                  replace HS := Lib.hid (HS.out.go (QQ.obj _ _ _ _ _) hb6)
                  clear h6 hv6 hb6
                  go_wp2_with fail
                  go_ret
                  exact ⟨rfl, HS.out.below⟩
end Go.Proofs.Ytjnkcgegmffncaa
