/- A queue: Items. -/
import Derived.Test.YtjnkcgegmffncaaQuJ
import Derived.Test.YtjnkcgegmffncaaQuQ
import Derived.Test.YtjnkcgegmffncaaApp
namespace Go.Proofs.Ytjnkcgegmffncaa
open Go.RowKit
abbrev InIt (w : World) (F : Nat → Prop) (x : It) : Prop := ItIn w F x.2.2.1.1 x.2.2.1.2.2 x.2.2.2.2.2.2.2.1 x.2.2.2.2.2.2.2.2.2
theorem itc_one : ∀ (L : List It), ∀ u ∈ rowF itc L, u.oneCell' = true := rowF_one (fun x u hu => by
  simp only [List.mem_cons, List.not_mem_nil, or_false] at hu
  rcases hu with rfl | rfl | rfl | rfl | rfl | rfl | rfl | rfl <;> rfl)
/-- Its blocks are known to lie below B. -/
theorem ItIn.weak2 {w : World} {F G : Nat → Prop} {la ca : Option Addr} {L : List Lb} {C : List Cg} {B : Nat} (h : ItIn w F la L ca C) (hG : ∀ k, F k → k < B → G k) (h1 : 0 < L.length → ∀ ad, la = some ad → ad.block < B) (h2 : 0 < C.length → ∀ ad, ca = some ad → ad.block < B) (h3 : ∀ x ∈ C, 0 < x.1.2.2.length → ∀ ad, x.1.1 = some ad → ad.block < B) : ItIn w G la L ca C where
  lab := h.lab
  chg := h.chg
  labF := fun h0 ad e => ⟨hG _ (h.labF h0 ad e).1 (h1 h0 ad e), (h.labF h0 ad e).2⟩
  chgF := fun h0 ad e => ⟨hG _ (h.chgF h0 ad e).1 (h2 h0 ad e), (h.chgF h0 ad e).2⟩
  eltF := fun x hx h0 ad e => ⟨hG _ (h.eltF x hx h0 ad e).1 (h3 x hx h0 ad e), (h.eltF x hx h0 ad e).2⟩
/-- The items told so far. -/
def ItSt (w0 : World) (Q : List ItC) (k : Nat) (o : Value) (W : World) : Prop := ∃ X : List It, X.map itC = Q.take k ∧ X.length = k ∧ W.ownsRow w0.heap.size 38 8 o k (rowF itc X) ∧ ∀ x ∈ X, InIt W (fun i => w0.heap.size ≤ i ∧ o.ownBlock ≠ some i) x
theorem ItSt.stab (w0 : World) (Q : List ItC) (k : Nat) (o : Value) : Stab (ItSt w0 Q k o) := fun _ _ ⟨X, h1, h2, h3, h4⟩ hb => ⟨X, h1, h2, or_below h3 hb, fun x hx => (h4 x hx).below hb⟩
theorem ItSt.form {w0 W : World} {Q : List ItC} {k : Nat} {o : Value} (h : ItSt w0 Q k o W) : ∃ A c, o = .slice A k c := by
  obtain ⟨X, _, _, h3, _⟩ := h; exact or_form h3
/-- One item as a row. -/
def OneI (B : Nat) (y : It) (v : Value) (W : World) : Prop := ∃ H, v = .slice (some ⟨H, 0, none⟩) 1 1 ∧ B ≤ H ∧ W.heap[H]? = some (.cells (itc y).toArray 38 (0, 0))
theorem OneI.stab (B : Nat) (y : It) (v : Value) : Stab (OneI B y v) := fun _ _ ⟨H, h1, h2, h3⟩ hb => ⟨H, h1, h2, keepB h3 hb⟩
def OneQ (B : Nat) (x : ItC) (v : Value) (W : World) : Prop := ∃ y, itC y = x ∧ InIt W (fun i => B ≤ i) y ∧ OneI B y v W
theorem OneQ.stab (B : Nat) (x : ItC) (v : Value) : Stab (OneQ B x v) := fun _ _ ⟨y, h1, h2, h3⟩ hb => ⟨y, h1, h2.below hb, OneI.stab _ _ _ _ _ h3 hb⟩
/-- One more. -/
theorem ItSt.more {w0 W : World} {Q : List ItC} {k B : Nat} {o v : Value} {y : It} (h : ItSt w0 Q k o W) (hk : k < Q.length) (hy : itC y = Q[k]) (hyi : InIt W (fun i => B ≤ i) y) (hv : OneI B y v W) (ho : ∀ g, o.ownBlock = some g → g < B) (hB : w0.heap.size ≤ B) (hBW : B ≤ W.heap.size) (hl : k ≤ 100000) (ty : TypeId) :
    ∃ A c u W', v = .slice A 1 c ∧ (Builtin.append_ #[22, 22] ty #[o, v]).run Try.prog W = .ok u W' ∧ ItSt w0 Q (k + 1) u W' ∧ Only (fun i => o.ownBlock = some i) W W' := by
  obtain ⟨X, h1, h2, h3, h4⟩ := h
  obtain ⟨H, rfl, hH, hg⟩ := hv
  obtain ⟨i0, hi, hz0, hz1, hz2⟩ := info_parts infoIt
  have hr : Reads W W.heap.size 8 (some ⟨H, 0, none⟩) 1 (rowF itc [y]) := ⟨rfl, fun _ => ⟨_, rfl, only_lt hg, World.news_of_block (by simpa [rowF] using hg)⟩⟩
  obtain ⟨u, W', hrun, g2, g3, g4⟩ := run_append_any (P := Try.prog) W w0.heap.size 22 ty 38 i0 _ 8 104 Try.underlying22 hi hz0 hz1 hz2 rfl (by decide) o k (rowF itc X) h3 W.heap.size (some ⟨H, 0, none⟩) 1 1 (rowF itc [y]) hr (itc_one [y]) (by unfold maxLen; omega) (by omega) (Nat.le_trans hB hBW)
  have hO : Only (fun i => o.ownBlock = some i) W W' := ⟨g3.os, g3.tape, g3.output, g3.size, fun i hi hn => g3.block i hi (fun e => hn e.symm)⟩
  refine ⟨_, _, u, W', rfl, hrun, ⟨X ++ [y], ?_, by rw [List.length_append, h2]; rfl, by rw [rowF_append]; exact g2, fun x hx => ?_⟩, hO⟩
  · rw [List.map_append, h1, List.map_cons, hy]; exact List.take_append_getElem hk
  · have hu : ∀ i, i < W.heap.size → o.ownBlock ≠ some i → u.ownBlock ≠ some i := fun i hi hn e => by
      rcases g4 with g | g
      · exact hn (g ▸ e)
      · rw [g] at e; cases e; omega
    rcases List.mem_append.1 hx with hx | hx
    · have hx4 := h4 x hx
      exact (hx4.keep hO (fun i hi _ => hi.2)).weak2 (fun i hi hil => ⟨hi.1, hu i hil hi.2⟩) (fun h0 ad e => (hx4.labF h0 ad e).2) (fun h0 ad e => (hx4.chgF h0 ad e).2) (fun z hz h0 ad e => (hx4.eltF z hz h0 ad e).2)
    · rw [List.mem_singleton.1 hx]
      have hn : ∀ i, B ≤ i → o.ownBlock ≠ some i := fun i hi e => by have := ho i e; omega
      exact (hyi.keep hO (fun i hi _ => hn i hi)).weak2 (fun i hi hil => ⟨Nat.le_trans hB hi, hu i hil (hn i hi)⟩) (fun h0 ad e => (hyi.labF h0 ad e).2) (fun h0 ad e => (hyi.chgF h0 ad e).2) (fun z hz h0 ad e => (hyi.eltF z hz h0 ad e).2)
/-- What Items tells. -/
def ItemsP (Q : List ItC) (n : Nat) (w : World) (e : Ending) (w' : World) : Prop := ∃ A c X, e = .returned (.slice A n c) ∧ X.map itC = Q ∧ RdIts w' (fun i => w.heap.size ≤ i) A n X ∧ Below w.heap.size w w'
theorem qitems_nil (w : World) : Calls Try.prog 13 #[.pointer none] w fun e w' => e = .returned (.slice none 0 0) ∧ w = w' := by
  go_enter Try.func13, Try.ntmps13
  go_wp2_with fail
  refine (qright_nil _).mono ?_
  rintro e w1 ⟨rfl, rfl⟩
  go_wp2_with fail
  go_ret
  exact ⟨rfl, rfl⟩
set_option maxHeartbeats 8000000 in
set_option maxRecDepth 100000 in
theorem qitems_any {w : World} {F : Nat → Prop} {q N n : Nat} {Q : List ItC} (h : QuO q N Q w F) (hn : Q.length = n) : Calls Try.prog 13 #[qptr q] w (ItemsP Q n w) := by
  have CR := Lib.hid (qright_any h)
  obtain ⟨r, a, cc0, h⟩ := h
  have H := Lib.hid h
  have hqq : w.heap[q]? = some (.cells #[.slice (some ⟨r, 0, none⟩) N N, .int .i64 (a : Int), .int .i64 (n : Int)] 59 (0, 0)) := by have := h.que; rw [hn] at this; exact this
  have HQQ := Lib.hid hqq
  have HN := Lib.hid hn
  have hlt := h.lt
  have hle := h.le
  have hnN : n ≤ N := by rw [← hn]; exact h.len
  have k2 := cellAt (o := 2) (v := .int .i64 (n : Int)) hqq rfl
  clear h hn hqq
  go_enter Try.func13, Try.ntmps13
  go_wp2_with fail
  refine CR.out.mono ?_
  rintro e w1 ⟨rfl, rfl⟩
  clear CR
  go_wp2_with fail
  clear k2
  go_loopw [3, 12] (fun o v wr => ∃ j : Nat, v = .int .i64 (j : Int) ∧ j ≤ n ∧ Hid (ItSt w Q j o wr) ∧ Hid (Below w.heap.size w wr)) (fun _ v _ => n - (intOf v).toNat)
  case atStart => exact ⟨0, rfl, Nat.zero_le _, Lib.hid ⟨[], rfl, rfl, World.ownsRow_nil _ _ _ _, by simp⟩, Lib.hid (Below.refl _ _)⟩
  case round =>
    obtain ⟨j, rfl, hj, HS, HB⟩ := hrel
    by_cases h0 : j < n
    · obtain ⟨oA, oc, rfl⟩ := ItSt.form HS.out
      obtain ⟨⟨k, m, ⟨la, lc, L⟩, t, nn, tm, bt, ca, cc, C⟩, hs, hx, hin⟩ := H.out.its j (by rw [HN.out]; exact h0)
      obtain ⟨b1, b2, b3⟩ := it_bd hx (H.out.sm _ (List.getElem_mem _))
      simp only at hin
      have CO := Lib.hid (fun W (hb : Below w.heap.size w W) => own_any (k := k) (m := m) (t := t) (n := nn) (tm := tm) (bt := bt) (lc := lc) (cc := cc) rfl (RdLb.below hin.lab hb) (hin.chg.below hb) b1 b2 b3)
      obtain ⟨ai, hai⟩ : ∃ x, a + j = x := ⟨_, rfl⟩
      rw [hai] at hs
      obtain ⟨sl, hsl⟩ : ∃ x, ai % N = x := ⟨_, rfl⟩
      rw [hsl] at hs
      have hw1 : IntKind.i64.wrap ((a : Int) + (j : Int)) = (ai : Int) := by rw [IntKind.wrap_i64]; omega
      have ht : Int.tmod (ai : Int) (N : Int) = (sl : Int) := by rw [← hsl]; rfl
      have hNz : ¬ N = 0 := by omega
      have hsN : sl < N := by rw [← hsl]; exact mod_lt_ (by omega)
      have hsI : (sl : Int) < (N : Int) := by omega
      have KS := Lib.hid (fun (W : World) (hb : Below w.heap.size w W) => slot_cells hs (keepB H.out.ring hb))
      obtain ⟨l1, hl1⟩ : ∃ n, L.length = n := ⟨_, rfl⟩
      obtain ⟨l2, hl2⟩ : ∃ n, C.length = n := ⟨_, rfl⟩
      rw [hl1, hl2] at KS CO
      have HL := Lib.hid (And.intro hl1 hl2)
      have HX := Lib.hid hx
      have hw : IntKind.i64.wrap ((j : Int) + 1) = ((j + 1 : Nat) : Int) := by rw [IntKind.wrap_i64]; omega
      have hkI : (j : Int) < (n : Int) := by omega
      have HOb : Hid (∀ g, (Value.slice oA j oc).ownBlock = some g → g < wr.heap.size) := Lib.hid (fun g hg => by obtain ⟨X, _, _, h3, _⟩ := HS.out; exact (h3.lt g hg).2)
      have HSz := Lib.hid HB.out.size
      have HJ := Lib.hid h0
      have HJ2 : Hid (j ≤ 100000) := Lib.hid (by omega)
      clear hs hx hin b1 b2 b3 hai hsl hl1 hl2
      go_wp2_with fail
      refine wp_region_fork 23 (.q 0 (.q 1 (.q 2 (.q 3 (.q 4 (.q 5 (.q 6 (.q 7 (.q 8 (.q 9 (.q 10 (.q 11 (.q 12 (.q 13 (.q 14 (.q 15 (.q 16 (.q 17 (.q 18 (.alt 19 (.alt 20 (.alt 21 (.q 22 .nil) .stop) .stop) .stop)))))))))))))))))))) (fun W => Below w.heap.size w W ∧ wr.heap.size ≤ W.heap.size) (ItSt w Q j (.slice oA j oc)) (by kernel_rfl) (by kernel_rfl) (fun _ _ h hb => ⟨h.1.trans (hb.mono h.1.size), Nat.le_trans h.2 hb.size⟩) (ItSt.stab _ _ _ _) ⟨HB.out.drew, Nat.le_refl _⟩ (ItSt.stab _ _ _ _ _ _ HS.out ((Below.refl _ _).drew)) ?_
      repeat (first | (refine wf_q rfl rfl ?_; apply Exists.intro; refine ⟨fun w' hw' => ?_, fun K hK => ?_⟩; (focus ((have k0 := cellAt (o := 0) (v := .slice (some ⟨r, 0, none⟩) N N) (keepB HQQ.out hw'.1) rfl; have k1 := cellAt (o := 1) (v := .int .i64 (a : Int)) (keepB HQQ.out hw'.1) rfl; obtain ⟨s0, s1, s2, s3, s4, s5, s6, s7⟩ := KS.out _ hw'.1); go_simp; first | exact quiet_value | fail)); simp only [Act.put, List.setIfInBounds_toArray, List.set_cons_zero, List.set_cons_succ]; refine hK.out _ ?_; clear hK K) | (refine wf_skip rfl rfl (fun K hK => ?_); simp only [Act.put, List.setIfInBounds_toArray, List.set_cons_zero, List.set_cons_succ]; refine hK.out _ ?_; clear hK K) | (refine wf_skipu rfl rfl (fun K hK => ?_); simp only [Act.put, List.setIfInBounds_toArray, List.set_cons_zero, List.set_cons_succ]; refine hK.out _ ?_; clear hK K))
      refine wf_step (FrI k m L t nn tm bt C l1 l2 wr) (fun _ => ItSt w Q j (.slice oA j oc)) (FrI.stab _ _ _ _ _ _ _ _ _ _ _) (fun _ => ItSt.stab _ _ _ _) rfl rfl (fun w' hc hd => ?_) (fun K hK v => ?_) wf_stop
      focus
        have HC := Lib.hid hc
        have HD := Lib.hid hd
        clear hc hd
        go_simp
        refine st_enter ?_
        exact (CO.out _ HC.out.1).mono fun e W' ⟨la', lc', ca', cc', P, h1, h2, h3, h4, h5⟩ => ⟨_, h1, ⟨HC.out.1.trans (h5.mono HC.out.1.size), Nat.le_trans HC.out.2 h5.size⟩, ⟨la', lc', ca', cc', P, rfl, h2, h3, h4.weak (fun i _ hi => Nat.le_trans HC.out.2 hi)⟩, ItSt.stab _ _ _ _ _ _ HD.out h5⟩
      simp only [Act.put, List.setIfInBounds_toArray, List.set_cons_zero, List.set_cons_succ]
      refine hK.out _ _ _ ?_
      clear hK K
      refine wf_step (OneQ wr.heap.size (Q[j]'(by rw [HN.out]; exact HJ.out))) (fun _ => ItSt w Q j (.slice oA j oc)) (OneQ.stab _ _) (fun _ => ItSt.stab _ _ _ _) rfl rfl (fun w' hc hd => ?_) (fun K hK v2 => ?_) wf_stop
      focus
        obtain ⟨hc1, la', lc', ca', cc', P, rfl, p1, p2, p3⟩ := hc
        have HC := Lib.hid hc1
        have HP := Lib.hid (And.intro p1 (And.intro p2 p3))
        have HD := Lib.hid hd
        clear hc1 hd p1 p2 p3
        go_simp
        have hb := below_alloc (Below.refl w'.heap.size w') (.cells #[.int .i64 k, .string m, .slice la' l1 lc', .int .i64 t, .int .i64 nn, .int .i64 tm, .int .i64 bt, .slice ca' l2 cc'] 38)
        have hnb := newB w' (.cells #[.int .i64 k, .string m, .slice la' l1 lc', .int .i64 t, .int .i64 nn, .int .i64 tm, .int .i64 bt, .slice ca' l2 cc'] 38)
        refine ⟨⟨⟨HC.out.1.trans (hb.mono HC.out.1.size), Nat.le_trans HC.out.2 hb.size⟩, ⟨la', lc', ca', cc', P, rfl, HP.out.1, HP.out.2.1, HP.out.2.2.below hb⟩⟩, ⟨(k, m, (la', lc', L), t, nn, tm, bt, ca', cc', P), ?_, HP.out.2.2.below hb, ⟨w'.heap.size, rfl, HC.out.2, ?_⟩⟩, ItSt.stab _ _ _ _ _ _ HD.out hb⟩
        · rw [← HX.out]; simp only [itC]; rw [HP.out.2.1]
        · have e : (itc (k, m, (la', lc', L), t, nn, tm, bt, ca', cc', P)).toArray = #[.int .i64 k, .string m, .slice la' l1 lc', .int .i64 t, .int .i64 nn, .int .i64 tm, .int .i64 bt, .slice ca' l2 cc'] := by
            show #[_, _, Value.slice la' L.length lc', _, _, _, _, Value.slice ca' P.length cc'] = _
            rw [HL.out.1, HP.out.1]
          rw [e]; exact hnb
      simp only [Act.put, List.setIfInBounds_toArray, List.set_cons_zero, List.set_cons_succ]
      refine hK.out _ _ _ ?_
      clear hK K
      refine wf_step (fun _ => Triv) (fun u W => ItSt w Q (j + 1) u W) (fun _ => Triv.stab) (fun u => ItSt.stab _ _ _ _) rfl rfl (fun w' hc hd => ?_) (fun K hK v3 => ?_) wf_stop
      focus
        obtain ⟨⟨hc1, la', lc', ca', cc', P, hv, p1, p2, p3⟩, y, hy1, hy2, hy3⟩ := hc
        obtain ⟨H2, hH1, hH2, hH3⟩ := hy3
        obtain ⟨A9, c9, u, W', e9, hrun, hst, hO⟩ := ItSt.more hd (by rw [HN.out]; exact HJ.out) hy1 hy2 ⟨H2, rfl, hH2, hH3⟩ HOb.out HSz.out hc1.2 HJ2.out 22
        cases e9
        have hnn : ∀ i, wr.heap.size ≤ i → ¬ (Value.slice oA j oc).ownBlock = some i := fun i hi e => by have := HOb.out i e; omega
        refine st_ap (.tmp 15) (.tmp 35) rfl rfl hH1 hrun ⟨⟨⟨⟨?_, Nat.le_trans hc1.2 hO.size⟩, ⟨la', lc', ca', cc', P, hv, p1, p2, p3.keep hO (fun i hi _ => hnn i hi)⟩⟩, ⟨y, hy1, hy2.keep hO (fun i hi _ => hnn i hi), ⟨H2, hH1, hH2, hO.get hH3 (hnn H2 hH2)⟩⟩⟩, triv _, hst⟩
        refine hc1.1.trans (hO.below (fun i e => ?_) hc1.1.size)
        obtain ⟨X, _, _, h3, _⟩ := hd
        exact (h3.lt i e).1
      simp only [Act.put, List.setIfInBounds_toArray, List.set_cons_zero, List.set_cons_succ]
      refine hK.out _ _ _ ?_
      clear hK K
      repeat (first | (refine wf_q rfl rfl ?_; apply Exists.intro; refine ⟨fun w' hw' => ?_, fun K hK => ?_⟩; (focus ((skip); go_simp; first | exact quiet_value | fail)); simp only [Act.put, List.setIfInBounds_toArray, List.set_cons_zero, List.set_cons_succ]; refine hK.out _ ?_; clear hK K) | (refine wf_skip rfl rfl (fun K hK => ?_); simp only [Act.put, List.setIfInBounds_toArray, List.set_cons_zero, List.set_cons_succ]; refine hK.out _ ?_; clear hK K) | (refine wf_skipu rfl rfl (fun K hK => ?_); simp only [Act.put, List.setIfInBounds_toArray, List.set_cons_zero, List.set_cons_succ]; refine hK.out _ ?_; clear hK K))
      refine wf_nil ?_
      rintro w6 ⟨⟨⟨hb6, _⟩, _⟩, _⟩ hst6
      have HB6 := Lib.hid hb6.1
      have HS6 := Lib.hid hst6
      obtain ⟨oA6, oc6, rfl⟩ := ItSt.form hst6
      clear hb6 hst6
      (try simp only [List.drop_succ_cons]); (try simp only [List.drop_zero]); (try simp only [List.drop_nil])
      go_wp2_with fail
      go_roundw
      case rel => exact ⟨j + 1, by go_num, by omega, HS6, HB6⟩
      case measure => simp [intOf]; omega
    · obtain rfl : j = n := by omega
      obtain ⟨oA, oc, rfl⟩ := ItSt.form HS.out
      have hkI : ¬ (j : Int) < (j : Int) := by omega
      go_wp2_with fail
      go_ret
      obtain ⟨X, h1, h2, h3, h4⟩ := HS.out
      rw [List.take_of_length_le (by rw [HN.out]; exact Nat.le_refl _)] at h1
      exact ⟨oA, oc, X, rfl, h1, ⟨h2, Reads.of_own h3, fun _ ad e => (h3.lt ad.block (by rw [e]; rfl)).1, fun x hx => (h4 x hx).weak (fun i _ hi => hi.1), fun x hx => H.out.sm _ (by rw [← h1]; exact List.mem_map_of_mem hx)⟩, HB.out⟩
end Go.Proofs.Ytjnkcgegmffncaa
