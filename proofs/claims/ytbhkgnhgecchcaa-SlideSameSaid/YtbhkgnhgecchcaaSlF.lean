/- The maker of a slide that keeps the least number, or the greatest: push. -/
import Derived.Test.YtbhkgnhgecchcaaSlE
import Derived.Test.YtbhkgnhgecchcaaApp
namespace Go.Proofs.Ytbhkgnhgecchcaa
open Go.RowKit
theorem infoP : (Try.prog.info? 54).map (fun i => (i.zero, i.size, i.bytes)) = some (some (.agg #[.int .i64 0, .int .i64 0, .bool false]), 3, 24) := by kernel_rfl
theorem undP : Try.prog.underlying 33 = some (.slice 54) := by kernel_rfl
def xsp (p : Pt) : Array Value := #[.int .i64 p.1, .int .i64 p.2, .bool false]
structure PushI (w : World) (M : Nat → Prop) (b : Nat) (sign : Bool) (a : Nat) (Z D Dj : List Pt) (x : Pt) (rv : Value) (wr : World) : Prop where
  blk : wr.heap[b]? = some (.cells #[.bool sign, rv, .int .i64 (a : Nat)] 82 (0, 0))
  row : RowAt wr (fun k => M k ∧ k ≠ b) 54 3 rv (a + Dj.length) (pcs (Z ++ Dj))
  filt : D.filter (fun p => aheadN sign p.2 x.2) = Dj.filter (fun p => aheadN sign p.2 x.2)
  chain : Dj.Pairwise fun a b => aheadN sign a.2 b.2 = true
  only : Only (fun k => k = b) w wr
  px : wr.heap[w.heap.size]? = some (.cells (xsp x) 54 (0, 0))
  len : a + Dj.length ≤ 1099511627775
  own : ∀ k, rv.ownBlock = some k → k < w.heap.size
theorem PushI.cut {w : World} {M : Nat → Prop} {b : Nat} {sign : Bool} {a : Nat} {Z D E : List Pt} {d x : Pt} {A : Option Addr} {c n : Nat} {wr w1 : World} (hn : n = a + E.length) (hZ : Z.length = a) (h : PushI w M b sign a Z D (E ++ [d]) x (.slice A (n + 1) c) wr)
    (hq : aheadN sign d.2 x.2 = false) (hb : Below wr.heap.size wr w1) (hbl : b < w.heap.size) : PushI w M b sign a Z D E x (.slice A n c) (w1.setCell ⟨b, 1, none⟩ (.slice A n c)) := by
  subst hn
  have hr := h.row
  rw [List.length_append, List.length_singleton, ← Nat.add_assoc, ← List.append_assoc] at hr
  have h1 := hr.init_
  have e : (pcs (Z ++ E ++ [d])).take ((a + E.length) * 3) = pcs (Z ++ E) := by
    have := pcs_take_init (Z ++ E) d
    rwa [List.length_append, hZ] at this
  rw [e] at h1
  have ho := Only.set w1 b 1 (.slice A (a + E.length) c)
  have hc := h.chain
  refine ⟨by rw [setCell_get (keepB h.blk hb)]; rfl, (h1.below hb).keep ho (fun k hk _ e => hk.2 e), ?_, (List.pairwise_append.1 hc).1, (h.only.trans (Only.of_below hb)).trans ho, ?_, by have := h.len; rw [List.length_append] at this; omega, fun k hk => h.own k (by cases A with | none => cases hk | some ad => exact hk)⟩
  · rw [h.filt]; exact (filter_snoc_ahead hc).2 hq
  · exact setCell_other (keepB h.px hb) (by omega)
theorem PushI.done {w : World} {M : Nat → Prop} {b : Nat} {sign : Bool} {a : Nat} {Z D Dj : List Pt} {x : Pt} {rv : Value} {wr : World} (h : PushI w M b sign a Z D Dj x rv wr) (hq : Dj = [] ∨ ∃ E d, Dj = E ++ [d] ∧ aheadN sign d.2 x.2 = true) : D.filter (fun p => aheadN sign p.2 x.2) = Dj := by
  rw [h.filt]
  rcases hq with rfl | ⟨E, d, rfl, hq⟩
  · rfl
  · exact (filter_snoc_ahead h.chain).1 hq
theorem PushI.finish {w : World} {M : Nat → Prop} {b : Nat} {sign : Bool} {a K : Nat} {Z D Dj P : List Pt} {x : Pt} {rv v' : Value} {wr w1 w2 : World} (h : PushI w M b sign a Z D Dj x rv wr) (hD : D.filter (fun p => aheadN sign p.2 x.2) = Dj)
    (hsn : sfx sign (P ++ [x]) = D.filter (fun p => aheadN sign p.2 x.2) ++ [x]) (hb : Below wr.heap.size wr w1) (hrow : RowAt w2 (fun k => rv.ownBlock = some k ∨ k = w1.heap.size) 54 3 v' (a + Dj.length + 1) (pcs (Z ++ Dj) ++ pc x))
    (ho : Only (fun k => rv.ownBlock = some k) w1 w2) (hM : M b) (hbl : b < w.heap.size) (hZ : Z.length = a) (hK : a + D.length ≤ K) :
    EndW (w2.setCell ⟨b, 1, none⟩ v') (fun k => M k ∨ w.heap.size ≤ k) b sign (P ++ [x]) (K + 1) ∧ Only M w (w2.setCell ⟨b, 1, none⟩ v') := by
  have hlt := h.row.lt
  have hne : ¬ rv.ownBlock = some b := fun e => (hlt b e).1.2 rfl
  have hs1 := h.only.size
  have hs2 := hb.size
  have hlen : Dj.length ≤ D.length := by rw [← hD]; exact List.length_filter_le _ _
  have e := hsn
  rw [hD] at e
  have hset := Only.set w2 b 1 v'
  refine ⟨⟨.inl hM, v', a, Z, by rw [setCell_get (ho.get (keepB h.blk hb) hne)]; rfl, ?_, hZ, by rw [e, List.length_append]; simp; omega⟩, ?_⟩
  · rw [e, List.length_append, List.length_singleton, ← Nat.add_assoc, ← List.append_assoc, pcs_append (Z ++ Dj) [x], show pcs [x] = pc x from by simp [pcs]]
    refine (hrow.weak (G := fun k => (M k ∨ w.heap.size ≤ k) ∧ k ≠ b) (fun k _ hk => ?_)).keep hset (fun k hk _ e => hk.2 e)
    rcases hk with hk | hk
    · exact ⟨.inl (hlt k hk).1.1, (hlt k hk).1.2⟩
    · exact ⟨.inr (by omega), by omega⟩
  · refine ((h.only.mono (fun k _ hk => hk ▸ hM)).then ((Only.of_below (S := fun k => rv.ownBlock = some k) hb).trans ho) (fun k _ hk => (hlt k hk).1.1)).then hset (fun k _ hk => hk ▸ hM)
set_option maxRecDepth 100000 in
theorem end_push (M : Nat → Prop) (b : Nat) (sign : Bool) (P : List Pt) (x : Pt) (K : Nat) (g0 o0 c0 : Nat) (w : World) (h : EndW w M b sign P K) (hr : RPt w (some ⟨g0, o0, none⟩) (P ++ [x])) (hP : P.length ≤ 1099511627776) (hK : K ≤ 1099511627775) :
    Calls Try.prog 102 #[ptrTo b, .slice (some ⟨g0, o0, none⟩) (P.length + 1) c0] w fun e w' => e = .returned (.tuple #[]) ∧ EndW w' (fun k => M k ∨ w.heap.size ≤ k) b sign (P ++ [x]) (K + 1) ∧ Only M w w' := by
  obtain ⟨hMb, rv0, a, Z, h1, h2, h3, h4⟩ := h
  obtain ⟨hgl2, hpt2⟩ := hr.pt (k := P.length) (by simp)
  simp only [List.getElem_append_right (Nat.le_refl _), Nat.sub_self, List.getElem_cons_zero] at hpt2
  have hbl := only_lt h1
  have HMB := Lib.hid hMb
  have HZ := Lib.hid h3
  have H4 := Lib.hid h4
  have HI : Hid (PushI w M b sign a Z (sfx sign P) (sfx sign P) x rv0 (w.alloc (.cells (xsp x) 54))) := Lib.hid
    ⟨keepA h1 _, h2.below (below_alloc (Below.refl _ _) _), rfl, sfx_chain sign P, Only.of_below (below_alloc (Below.refl _ _) _), newB _ _, by omega, fun k hk => (h2.lt k hk).2⟩
  have HSN := Lib.hid (sfx_snoc sign x P)
  generalize hD : sfx sign P = D at *
  have HD := Lib.hid hD
  unfold PtAt at hpt2
  obtain ⟨r0, r1, r2⟩ := hpt2
  obtain ⟨xt, xn⟩ := x
  simp only at r0 r1 r2
  generalize P.length = m at *
  have hix : (m : Int) < (m : Int) + 1 := by omega
  have HBL := Lib.hid hbl
  clear hMb h1 h2 h3 h4 hr hbl hD
  unfold xsp at HI
  unfold ptrTo
  go_enter Try.func102, Try.ntmps102
  go_wp2_with fail
  go_loopg [] D.length (fun k wr => ∃ (Dj : List Pt) (rv : Value), k = Dj.length ∧ Hid (PushI w M b sign a Z D Dj (xt, xn) rv wr))
  case atStart => exact ⟨D, rv0, rfl, HI⟩
  case round =>
    obtain ⟨Dj, rv, rfl, HI⟩ := hrel
    rcases List.eq_nil_or_concat Dj with rfl | ⟨E, d, rfl⟩
    · obtain ⟨A, c, rfl, hnc, hcm, hrd, _, _⟩ := HI.out.row.form
      have HlenE : Hid (a = a + ([] : List Pt).length) := Lib.hid (by simp)
      have H1 := Lib.hid HI.out.blk
      have HX : Hid (wr.heap[w.heap.size]? = some (.cells #[.int .i64 xt, .int .i64 xn, .bool false] 54 (0, 0))) := Lib.hid HI.out.px
      rw [List.length_nil, Nat.add_zero] at HI H1
      have HDj := Lib.hid (HI.out.done (.inl rfl))
      have HB1 := Lib.hid (Below.refl wr.heap.size wr)
      have ha2 : ¬ (a : Int) < (a : Int) := by omega
      clear hrd hnc hcm
      go_wp2_with fail
      refine wp_region_here 27 [(0, false), (1, false), (2, false), (3, false), (4, false), (5, false), (6, false), (7, false), (8, false), (9, false), (10, false), (11, false), (12, false), (13, false), (14, false), (15, false), (16, false), (17, false), (18, false), (19, false), (20, false), (21, false), (22, false), (23, false), (24, false), (25, false), (26, false)] (fun _ => .cells #[] 0) (by kernel_rfl) (by kernel_rfl) ?_
      repeat (first | (refine wpP_q rfl rfl rfl ?_; apply Exists.intro; refine ⟨fun w' hw' => ?_, fun K hK => ?_⟩; (focus ((have q0 := keepB H1.out hw'; have k1 := cellAt (o := 1) q0 rfl; have k2 := cellAt (o := 2) q0 rfl; clear q0); go_simp; first | exact quiet_value | fail)); simp only [Act.put, List.setIfInBounds_toArray, List.set_cons_zero, List.set_cons_succ]; refine hK.out _ ?_; clear hK K) | (refine wpP_skip rfl rfl rfl (fun K hK => ?_); simp only [Act.put, List.setIfInBounds_toArray, List.set_cons_zero, List.set_cons_succ]; refine hK.out _ ?_; clear hK K))
      refine wpP_nil ?_
      intro w1 hb1
      try simp only [List.drop_succ_cons, List.drop_zero]
      replace HB1 := Lib.hid hb1
      have H1b := Lib.hid (keepB H1.out HB1.out)
      have HXb := Lib.hid (keepB HX.out HB1.out)
      clear hb1 ha2 H1 HX
      go_wp2_with fail
      have hne : ¬ (Value.slice A a c).ownBlock = some b := fun e => (HI.out.row.lt b e).1.2 rfl
      have hnx : ¬ (Value.slice A a c).ownBlock = some w.heap.size := fun e => Nat.lt_irrefl _ (HI.out.own _ e)
      have hrow2 := HI.out.row.below HB1.out
      rw [← HlenE.out] at hrow2
      have HR2 := Lib.hid hrow2
      have hl9 := HI.out.len
      rw [← HlenE.out] at hl9
      have HL9 := Lib.hid hl9
      obtain ⟨ip, hip, hz1, hz2, hz3⟩ := info_parts infoP
      have HIP := Lib.hid hip
      have HZ1 := Lib.hid hz1
      have HZ2 := Lib.hid hz2
      have HZ3 := Lib.hid hz3
      have HFN : Hid (∀ p ∈ [(b, Obj.cells #[.bool sign, .slice A a c, .int .i64 (a : Nat)] 82), (w.heap.size, .cells #[.int .i64 xt, .int .i64 xn, .bool false] 54)], ¬ (Value.slice A a c).ownBlock = some p.1) := Lib.hid (fun p hp => by
        simp only [List.mem_cons, List.not_mem_nil, or_false] at hp
        rcases hp with rfl | rfl
        · exact hne
        · exact hnx)
      have HFC : Hid (FC w1 (fun k => (Value.slice A a c).ownBlock = some k) [(b, Obj.cells #[.bool sign, .slice A a c, .int .i64 (a : Nat)] 82), (w.heap.size, .cells #[.int .i64 xt, .int .i64 xn, .bool false] 54)] w1) := Lib.hid ⟨Only.refl _ _, fun p hp => by
        simp only [List.mem_cons, List.not_mem_nil, or_false] at hp
        rcases hp with rfl | rfl
        · exact H1b.out
        · exact HXb.out⟩
      clear hrow2 hl9 hip hz1 hz2 hz3 hnx hne
      refine wp_region_two 8 [(0, false), (1, false), (2, false), (3, false), (4, false), (5, false), (6, true), (7, true)] [] [] rfl (FC w1 (fun k => (Value.slice A a c).ownBlock = some k) [(b, Obj.cells #[.bool sign, .slice A a c, .int .i64 (a : Nat)] 82), (w.heap.size, .cells #[.int .i64 xt, .int .i64 xn, .bool false] 54)]) (D0 w1) (by kernel_rfl) (by kernel_rfl) FC.stab (D0.stab w1) (FC.stab _ _ HFC.out (Below.refl _ _).drew) (Below.refl _ _).drew ?_
      repeat (first | (refine wt_q rfl rfl ?_; apply Exists.intro; refine ⟨fun w' hw' => ?_, fun K hK => ?_⟩; (focus ((have q0 := hw'.get 0 rfl; have k1 := cellAt (o := 1) q0 rfl; have qx := hw'.get 1 rfl; have x0 := cellAt (o := 0) qx rfl; have x1 := cellAt (o := 1) qx rfl; have x2 := cellAt (o := 2) qx rfl; clear q0 qx); go_simp; first | exact quiet_value | fail)); simp only [Act.put, List.setIfInBounds_toArray, List.set_cons_zero, List.set_cons_succ]; refine hK.out _ ?_; clear hK K) | (refine wt_skip rfl rfl (fun K hK => ?_); simp only [Act.put, List.setIfInBounds_toArray, List.set_cons_zero, List.set_cons_succ]; refine hK.out _ ?_; clear hK K))
      refine wt_bs 54 #[.int .i64 xt, .int .i64 xn, .bool false] rfl rfl rfl (fun w' hc hd => ?_) (fun K hK v => ?_)
      focus
        have HCd := Lib.hid (And.intro hc hd)
        clear hc hd
        go_simp
        exact bs_res HCd.out.1 HCd.out.2 rfl
      simp only [Act.put, List.setIfInBounds_toArray, List.set_cons_zero, List.set_cons_succ]
      refine hK.out _ _ _ ?_
      clear hK K
      refine wt_ap 3 (a + 1) (pcs (Z ++ ([] : List Pt)) ++ pc (xt, xn)) rfl rfl rfl (fun w' hc hd => ?_) (fun K hK v' => ?_)
      focus
        obtain ⟨u, w3, hrun, hres⟩ := ap_run (P := Try.prog) 33 33 54 ip _ 3 24 undP HIP.out HZ1.out HZ2.out HZ3.out rfl HR2.out (fun _ => Iff.rfl) HFN.out rfl (fun u hu => pcs_one [(xt, xn)] u (by simpa [pcs, pc] using hu)) (by have := HL9.out; omega) (by omega) hc hd
        exact st_ap (.tmp 57) (.tmp 59) rfl rfl rfl hrun hres
      simp only [Act.put, List.setIfInBounds_toArray, List.set_cons_zero, List.set_cons_succ]
      refine hK.out _ _ _ ?_
      clear hK K
      refine wt_nil ?_
      rintro w3 ⟨⟨hc3, _⟩, _⟩ ⟨w2, hb2, hrow3, ho3⟩
      have q0 := hc3.get 0 rfl
      have j1 := cellAt (o := 1) q0 rfl
      have f1 := freeAt 1 q0
      rw [show a + 1 = a + ([] : List Pt).length + 1 by rw [← HlenE.out]] at hrow3
      obtain ⟨A3, c3, rfl, _⟩ := hrow3.form
      have HFin := Lib.hid (PushI.finish HI.out HDj.out HSN.out (HB1.out.trans (hb2.mono HB1.out.size)) hrow3 ho3 HMB.out HBL.out HZ.out H4.out)
      clear hrow3 ho3 hc3 q0 hb2
      try simp only [List.drop_succ_cons, List.drop_zero]
      go_wp2_with fail
      go_end0
      exact ⟨rfl, HFin.out.1, HFin.out.2⟩
    · rw [List.concat_eq_append] at *
      have hrow := HI.out.row
      rcases hrow.2 with ⟨_, h0⟩ | ⟨g, o, c, cur, rfl, hF, hg, hnc, hcm, hcs, htake⟩
      · simp at h0
      have hl : a + (E ++ [d]).length = a + E.length + 1 := by rw [List.length_append]; simp; omega
      have hrr : RPt wr (some ⟨g, o, none⟩) (Z ++ (E ++ [d])) := ⟨by rw [pcs_len], fun _ => ⟨_, rfl, only_lt hg, row_cells hg htake hnc⟩⟩
      obtain ⟨hgl, hpt⟩ := hrr.pt (k := a + E.length) (by rw [List.length_append, HZ.out, hl]; omega)
      have hget : (Z ++ (E ++ [d]))[a + E.length]'(by rw [List.length_append, HZ.out, hl]; omega) = d := by
        rw [List.getElem_append_right (by rw [HZ.out]; omega)]
        simp [HZ.out]
      rw [hget] at hpt
      rw [hl] at HI hnc
      have HP := Lib.hid hpt
      have HG := Lib.hid hgl
      have H1 := Lib.hid HI.out.blk
      have HX : Hid (wr.heap[w.heap.size]? = some (.cells #[.int .i64 xt, .int .i64 xn, .bool false] 54 (0, 0))) := Lib.hid HI.out.px
      have hnb := HI.out.len
      rw [hl] at hnb
      have hna : a ≤ a + E.length := by omega
      clear hrow hg htake hcs hrr hgl hpt hget hl
      generalize hn : a + E.length = n at *
      have HN := Lib.hid hn.symm
      clear hn
      have hwr : IntKind.i64.wrap (n : Int) = (n : Int) := by rw [IntKind.wrap_i64]; omega
      have hix2 : (n : Int) < (n : Int) + 1 := by omega
      have ha2 : (a : Int) < (n : Int) + 1 := by omega
      obtain ⟨dt, dn⟩ := d
      have CB := Lib.hid (fun W (hb : Below wr.heap.size wr W) => before_any b sign (.slice (some ⟨g, o, none⟩) (n + 1) c) (.int .i64 (a : Nat)) dt dn xt xn W (keepB H1.out hb))
      have HC := Lib.hid (fun hq w1 (hb : Below wr.heap.size wr w1) => PushI.cut (A := some ⟨g, o, none⟩) (c := c) HN.out HZ.out HI.out hq hb HBL.out)
      have HDn := Lib.hid (fun hq => HI.out.done (.inr ⟨E, (dt, dn), rfl, hq⟩))
      simp only at HC HDn
      obtain ⟨q, hq⟩ : ∃ q, aheadN sign dn xn = q := ⟨_, rfl⟩
      rw [hq] at CB HC HDn
      go_wp2_with fail
      refine wp_region_here 27 [(0, false), (1, false), (2, false), (3, false), (4, false), (5, false), (6, false), (7, false), (8, false), (9, false), (10, false), (11, false), (12, false), (13, false), (14, false), (15, false), (16, false), (17, false), (18, false), (19, false), (20, false), (21, false), (22, false), (23, false), (24, false), (25, false), (26, false)] (fun _ => .cells #[] 0) (by kernel_rfl) (by kernel_rfl) ?_
      repeat (first | (refine wpP_q rfl rfl rfl ?_; apply Exists.intro; refine ⟨fun w' hw' => ?_, fun K hK => ?_⟩; (focus ((have q0 := keepB H1.out hw'; have k1 := cellAt (o := 1) q0 rfl; have k2 := cellAt (o := 2) q0 rfl; have qx := keepB HX.out hw'; have x0 := cellAt (o := 0) qx rfl; have x1 := cellAt (o := 1) qx rfl; have x2 := cellAt (o := 2) qx rfl; have qp := HP.out.below HG.out hw'; unfold PtAt at qp; obtain ⟨p0, p1, p2⟩ := qp; clear q0 qx); go_simp; first | exact quiet_value | with_reducible exact quiet_enter (CB.out _ hw'))); simp only [Act.put, List.setIfInBounds_toArray, List.set_cons_zero, List.set_cons_succ]; refine hK.out _ ?_; clear hK K) | (refine wpP_skip rfl rfl rfl (fun K hK => ?_); simp only [Act.put, List.setIfInBounds_toArray, List.set_cons_zero, List.set_cons_succ]; refine hK.out _ ?_; clear hK K))
      refine wpP_nil ?_
      intro w1 hb1
      try simp only [List.drop_succ_cons, List.drop_zero]
      cases q
      · have HB1 := Lib.hid hb1
        have H1' := Lib.hid (keepB H1.out hb1)
        have hc0 : ¬ c = 0 := by omega
        have i9 : (n : Int) ≤ (c : Int) := by omega
        have i8 : (0 : Int) ≤ (n : Int) := by omega
        clear hb1
        go_wp2_with fail
        refine wp_region_here 12 [(0, false), (1, false), (2, false), (3, false), (4, false), (5, false), (6, false), (7, false), (8, false), (9, false), (10, false), (11, false)] (fun _ => .cells #[] 0) (by kernel_rfl) (by kernel_rfl) ?_
        repeat (first | (refine wpP_q rfl rfl rfl ?_; apply Exists.intro; refine ⟨fun w' hw' => ?_, fun K hK => ?_⟩; (focus ((have q0 := keepB H1'.out hw'; have k1 := cellAt (o := 1) q0 rfl; clear q0); go_simp; first | exact quiet_value | fail)); simp only [Act.put, List.setIfInBounds_toArray, List.set_cons_zero, List.set_cons_succ]; refine hK.out _ ?_; clear hK K) | (refine wpP_skip rfl rfl rfl (fun K hK => ?_); simp only [Act.put, List.setIfInBounds_toArray, List.set_cons_zero, List.set_cons_succ]; refine hK.out _ ?_; clear hK K))
        refine wpP_nil ?_
        intro w2 hb2
        try simp only [List.drop_succ_cons, List.drop_zero]
        have HQ := Lib.hid (HC.out (by first | rfl | trivial) w2 (HB1.out.trans (hb2.mono HB1.out.size)))
        have k9 := keepB H1'.out hb2
        have j1 := cellAt (o := 1) k9 rfl
        have f1 := freeAt 1 k9
        clear hb2 k9
        go_wp2_with fail
        go_roundg E.length
        case measure => simp
        case rel => exact ⟨E, _, by first | rfl | trivial, HQ⟩
      · have HDj := Lib.hid (HDn.out (by first | rfl | trivial))
        have HB1 := Lib.hid hb1
        clear hb1
        go_wp2_with fail
        have HlenE : Hid (n + 1 = a + (E ++ [(dt, dn)]).length) := Lib.hid (by rw [List.length_append, HN.out]; simp; omega)
        generalize E ++ [(dt, dn)] = Dj at *
        generalize (some ⟨g, o, none⟩ : Option Addr) = A at *
        generalize hnn : n + 1 = nn at *
        have H1b := Lib.hid (keepB H1.out HB1.out)
        have HXb := Lib.hid (keepB HX.out HB1.out)
        clear hnn hix2 ha2 hwr hna CB HC HDn H1 HX hnb hnc HN HP HG hq
        have hne : ¬ (Value.slice A nn c).ownBlock = some b := fun e => (HI.out.row.lt b e).1.2 rfl
        have hnx : ¬ (Value.slice A nn c).ownBlock = some w.heap.size := fun e => Nat.lt_irrefl _ (HI.out.own _ e)
        have hrow2 := HI.out.row.below HB1.out
        rw [← HlenE.out] at hrow2
        have HR2 := Lib.hid hrow2
        have hl9 := HI.out.len
        rw [← HlenE.out] at hl9
        have HL9 := Lib.hid hl9
        obtain ⟨ip, hip, hz1, hz2, hz3⟩ := info_parts infoP
        have HIP := Lib.hid hip
        have HZ1 := Lib.hid hz1
        have HZ2 := Lib.hid hz2
        have HZ3 := Lib.hid hz3
        have HFN : Hid (∀ p ∈ [(b, Obj.cells #[.bool sign, .slice A nn c, .int .i64 (a : Nat)] 82), (w.heap.size, .cells #[.int .i64 xt, .int .i64 xn, .bool false] 54)], ¬ (Value.slice A nn c).ownBlock = some p.1) := Lib.hid (fun p hp => by
          simp only [List.mem_cons, List.not_mem_nil, or_false] at hp
          rcases hp with rfl | rfl
          · exact hne
          · exact hnx)
        have HFC : Hid (FC w1 (fun k => (Value.slice A nn c).ownBlock = some k) [(b, Obj.cells #[.bool sign, .slice A nn c, .int .i64 (a : Nat)] 82), (w.heap.size, .cells #[.int .i64 xt, .int .i64 xn, .bool false] 54)] w1) := Lib.hid ⟨Only.refl _ _, fun p hp => by
          simp only [List.mem_cons, List.not_mem_nil, or_false] at hp
          rcases hp with rfl | rfl
          · exact H1b.out
          · exact HXb.out⟩
        clear hrow2 hl9 hip hz1 hz2 hz3 hnx hne
        refine wp_region_two 8 [(0, false), (1, false), (2, false), (3, false), (4, false), (5, false), (6, true), (7, true)] [] [] rfl (FC w1 (fun k => (Value.slice A nn c).ownBlock = some k) [(b, Obj.cells #[.bool sign, .slice A nn c, .int .i64 (a : Nat)] 82), (w.heap.size, .cells #[.int .i64 xt, .int .i64 xn, .bool false] 54)]) (D0 w1) (by kernel_rfl) (by kernel_rfl) FC.stab (D0.stab w1) (FC.stab _ _ HFC.out (Below.refl _ _).drew) (Below.refl _ _).drew ?_
        repeat (first | (refine wt_q rfl rfl ?_; apply Exists.intro; refine ⟨fun w' hw' => ?_, fun K hK => ?_⟩; (focus ((have q0 := hw'.get 0 rfl; have k1 := cellAt (o := 1) q0 rfl; have qx := hw'.get 1 rfl; have x0 := cellAt (o := 0) qx rfl; have x1 := cellAt (o := 1) qx rfl; have x2 := cellAt (o := 2) qx rfl; clear q0 qx); go_simp; first | exact quiet_value | fail)); simp only [Act.put, List.setIfInBounds_toArray, List.set_cons_zero, List.set_cons_succ]; refine hK.out _ ?_; clear hK K) | (refine wt_skip rfl rfl (fun K hK => ?_); simp only [Act.put, List.setIfInBounds_toArray, List.set_cons_zero, List.set_cons_succ]; refine hK.out _ ?_; clear hK K))
        refine wt_bs 54 #[.int .i64 xt, .int .i64 xn, .bool false] rfl rfl rfl (fun w' hc hd => ?_) (fun K hK v => ?_)
        focus
          have HCd := Lib.hid (And.intro hc hd)
          clear hc hd
          go_simp
          exact bs_res HCd.out.1 HCd.out.2 rfl
        simp only [Act.put, List.setIfInBounds_toArray, List.set_cons_zero, List.set_cons_succ]
        refine hK.out _ _ _ ?_
        clear hK K
        refine wt_ap 3 (nn + 1) (pcs (Z ++ Dj) ++ pc (xt, xn)) rfl rfl rfl (fun w' hc hd => ?_) (fun K hK v' => ?_)
        focus
          obtain ⟨u, w3, hrun, hres⟩ := ap_run (P := Try.prog) 33 33 54 ip _ 3 24 undP HIP.out HZ1.out HZ2.out HZ3.out rfl HR2.out (fun _ => Iff.rfl) HFN.out rfl (fun u hu => pcs_one [(xt, xn)] u (by simpa [pcs, pc] using hu)) (by have := HL9.out; omega) (by omega) hc hd
          exact st_ap (.tmp 57) (.tmp 59) rfl rfl rfl hrun hres
        simp only [Act.put, List.setIfInBounds_toArray, List.set_cons_zero, List.set_cons_succ]
        refine hK.out _ _ _ ?_
        clear hK K
        refine wt_nil ?_
        rintro w3 ⟨⟨hc3, _⟩, _⟩ ⟨w2, hb2, hrow3, ho3⟩
        have q0 := hc3.get 0 rfl
        have j1 := cellAt (o := 1) q0 rfl
        have f1 := freeAt 1 q0
        rw [show nn + 1 = a + Dj.length + 1 by rw [← HlenE.out]] at hrow3
        obtain ⟨A3, c3, rfl, _⟩ := hrow3.form
        have HFin := Lib.hid (PushI.finish HI.out HDj.out HSN.out (HB1.out.trans (hb2.mono HB1.out.size)) hrow3 ho3 HMB.out HBL.out HZ.out H4.out)
        clear hrow3 ho3 hc3 q0 hb2
        try simp only [List.drop_succ_cons, List.drop_zero]
        go_wp2_with fail
        go_end0
        exact ⟨rfl, HFin.out.1, HFin.out.2⟩
end Go.Proofs.Ytbhkgnhgecchcaa
