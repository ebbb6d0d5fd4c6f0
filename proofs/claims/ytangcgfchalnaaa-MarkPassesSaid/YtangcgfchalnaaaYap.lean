/- Parts of the proof: MhU MhI TbI. -/
import Derived.Test.YtangcgfchalnaaaYan
import Derived.Test.YtangcgfchalnaaaYao
/- container/heap over places: up; Push and Pop of places. -/
namespace Go.Proofs.Ytangcgfchalnaaa
open Go.RowKit
section
variable {w w' : World} {B g i j n N : Nat} {v : Value} {A : List Plc}
set_option maxHeartbeats 8000000 in
set_option maxRecDepth 100000 in
theorem up_any (h : HpM w B g v A) (hj : j < A.length) (h31 : A.length ≤ 1000000) (hU : UpI ltP plD A j A.length) : Calls Try.prog 86 #[plI g, .int .i64 (j : Int)] w fun e w' =>
    (∃ u, e = .returned u) ∧ ∃ A', HpM w' B g v A' ∧ A'.Perm A ∧ HeapF ltP plD A' 0 A'.length ∧ Only (fun k => v.ownBlock = some k) w w' := by
  have H := Lib.hid (And.intro h hU)
  clear h hU
  obtain ⟨n, hn⟩ : ∃ n, A.length = n := ⟨_, rfl⟩
  rw [hn] at hj h31
  have HN := Lib.hid hn
  clear hn
  go_enter Try.func86, Try.ntmps86
  go_wp2_with fail
  go_loopw [1] (fun jv wr => ∃ (j1 : Nat) (A1 : List Plc), jv = .int .i64 (j1 : Int) ∧ j1 < n ∧ Hid (HpM wr B g v A1 ∧ A1.length = n ∧ A1.Perm A ∧ UpI ltP plD A1 j1 n ∧ Only (fun k => v.ownBlock = some k) w wr)) (fun jv _ => (intOf jv).toNat)
  case atStart => exact ⟨j, A, rfl, hj, Lib.hid ⟨H.out.1, HN.out, List.Perm.refl _, by rw [← HN.out]; exact H.out.2, Only.refl _ _⟩⟩
  case round =>
    obtain ⟨j1, A1, rfl, hj1, HS⟩ := hrel
    have hw1 : IntKind.i64.wrap ((j1 : Int) - 1) = (j1 : Int) - 1 := by rw [IntKind.wrap_i64]; omega
    obtain ⟨p, hp⟩ : ∃ p, (j1 - 1) / 2 = p := ⟨_, rfl⟩
    have ht : Int.tdiv ((j1 : Int) - 1) 2 = (p : Int) := by
      rcases Nat.eq_zero_or_pos j1 with h0 | h0
      · subst h0; subst hp; rfl
      · have e : (j1 : Int) - 1 = ((j1 - 1 : Nat) : Int) := by omega
        rw [e, ← hp]; rfl
    have hw2 : IntKind.i64.wrap (p : Int) = (p : Int) := by rw [IntKind.wrap_i64]; omega
    have HP := Lib.hid hp
    clear hp
    by_cases h0 : p = j1
    · have HJ0 : Hid (j1 = 0) := Lib.hid (by have := HP.out; omega)
      go_wp2_with fail
      go_end0
      obtain ⟨hM, hL, hPm, hI, hO⟩ := HS.out
      rw [HJ0.out] at hI
      exact ⟨⟨_, rfl⟩, A1, hM, hPm, by rw [hL]; exact hI.stop1, hO⟩
    · have h0I : ¬ (p : Int) = (j1 : Int) := by omega
      have HJn : Hid (1 ≤ j1 ∧ p < j1 ∧ j1 < A1.length ∧ p < A1.length) := Lib.hid (by have := HP.out; have := HS.out.2.1; omega)
      have hml := m_less g v wr (cellAt (o := 0) HS.out.1.box rfl)
      have C1 := less_any HS.out.1 HJn.out.2.2.1 HJn.out.2.2.2
      obtain ⟨b, hb⟩ : ∃ b, ltP (A1.getD j1 plD) (A1.getD p plD) = b := ⟨_, rfl⟩
      rw [hb] at C1
      have HC1 := Lib.hid C1
      have HBb := Lib.hid hb
      clear C1 hb
      go_wp2_with fail
      refine HC1.out.mono ?_
      rintro e w2 ⟨rfl, hb2⟩
      have HS2 := Lib.hid (And.intro (HS.out.1.below hb2) hb2)
      clear hb2 hml HC1
      cases b
      · go_wp2_with fail
        go_end0
        obtain ⟨hM, hL, hPm, hI, hO⟩ := HS.out
        exact ⟨⟨_, rfl⟩, A1, HS2.out.1, hPm, by rw [hL]; exact hI.stop2 (by rw [HP.out]; exact HBb.out), hO.trans (Only.of_below HS2.out.2)⟩
      · have hms := m_swap g v w2 (cellAt (o := 0) HS2.out.1.box rfl)
        go_wp2_with fail
        refine (swap_any HS2.out.1 HJn.out.2.2.2 HJn.out.2.2.1).mono ?_
        rintro e w4 ⟨⟨u, rfl⟩, hM4, hO4⟩
        have HS4 := Lib.hid (And.intro hM4 hO4)
        clear hM4 hO4 hms
        go_wp2_with fail
        go_roundw
        case rel =>
          obtain ⟨hM, hL, hPm, hI, hO⟩ := HS.out
          obtain ⟨a1, a2, a3, a4⟩ := HJn.out
          refine ⟨p, swapL A1 p j1 plD, by go_num, by omega, Lib.hid ⟨HS4.out.1, by rw [swapL_len]; exact hL, (swapL_perm a4 a3).trans hPm, ?_, (hO.trans (Only.of_below HS2.out.2)).trans HS4.out.2⟩⟩
          have := hI.step ltP_tot a1 hj1 (by rw [HP.out]; exact HBb.out) (by rw [hL]; exact Nat.le_refl _)
          rw [HP.out] at this
          exact this
        case measure => simp [intOf]; have := HJn.out; omega
/-- A place as an interface. -/
abbrev plV (x : Plc) : Value := .iface 115 (.agg #[.int .i64 (x.1 : Int), x.2.1])
theorem or_take {w : World} {B size n N c : Nat} {e : TypeId} {a : Option Addr} {xs : List Value} (h : w.ownsRow B e size (.slice a N c) N xs) (hn : n ≤ N) : w.ownsRow B e size (.slice a n c) n (xs.take (n * size)) := by
  have hl : n * size ≤ N * size := Nat.mul_le_mul_right _ hn
  refine ⟨by rw [List.length_take, h.1]; omega, ?_⟩
  rcases h.2 with ⟨h1, h0⟩ | ⟨g, cap, cur, h1, h2, h3, h4, h5, h6, h7⟩
  · cases h1
    exact .inl ⟨by rw [show n = 0 by omega], by omega⟩
  · cases h1
    exact .inr ⟨g, c, cur, rfl, h2, h3, by omega, h5, h6, by rw [← h7, List.take_take, Nat.min_eq_left hl]⟩
theorem HpM.shape {w : World} {B g N c0 : Nat} {a : Option Addr} {A : List Plc} (h : HpM w B g (.slice a N c0) A) : A.length = N := by
  rcases h.row.2 with ⟨h1, h0⟩ | ⟨_, _, _, h1, _⟩
  · cases h1; exact h0
  · cases h1; rfl
theorem HpM.gne {w : World} {B g : Nat} {v : Value} {A : List Plc} (h : HpM w B g v A) : v.ownBlock ≠ some g := fun e => by
  rcases h.row.2 with ⟨h4, _⟩ | ⟨g2, c2, cu2, h4, _, h6, _⟩
  · rw [h4] at e; cases e
  · rw [h4] at e; cases e
    rw [h.box] at h6; cases h6
theorem HpM.restne {w : World} {B g : Nat} {v : Value} {A : List Plc} (h : HpM w B g v A) {x : Plc} (hx : x ∈ A) : ∀ k, x.2.1.ownBlock = some k → k ≠ g := fun k hk e => by
  rcases (h.rest x hx).2.2 with ⟨h1, _⟩ | ⟨g1, o1, c1, cu1, h1, _, h3, _⟩
  · rw [h1] at hk; cases hk
  · rw [h1] at hk; cases hk
    have e : g1 = g := e
    rw [e, h.box] at h3; cases h3
theorem HpM.cut {w : World} {B g n N c0 : Nat} {a : Option Addr} {A : List Plc} (h : HpM w B g (.slice a N c0) A) (hn : n ≤ N) : HpM (w.setCell ⟨g, 0, none⟩ (.slice a n c0)) B g (.slice a n c0) (A.take n) := by
  have hN := h.shape
  have ho := Only.set w g 0 (.slice a n c0)
  refine ⟨h.gB, setCell_get (o := 0) h.box, ?_, fun x hx => ⟨(h.rest x (List.mem_of_mem_take hx)).1, (h.rest x (List.mem_of_mem_take hx)).2.keep' ho (fun k hk e => h.restne (List.mem_of_mem_take hx) k hk e)⟩⟩
  have e : (A.take n).length = n := by rw [List.length_take]; omega
  rw [e, rowF_cut (f := plc) (s := 2) (fun _ => rfl)]
  have hr := h.row
  rw [hN] at hr
  exact or_only (or_take hr hn) ho (fun k hk e => h.gne (by rw [← show k = g from e]; cases a <;> exact hk))
/-- What an append of one element leaves. -/
def D7o (wr : World) (B : Nat) (e : TypeId) (size n : Nat) (xs : List Value) (v9 v : Value) (W : World) : Prop := ∃ w2, Below wr.heap.size wr w2 ∧ W.ownsRow B e size v n xs ∧ Only (fun i => v9.ownBlock = some i) w2 W ∧ (v.ownBlock = v9.ownBlock ∨ v.ownBlock = some w2.heap.size)
theorem D7o.stab (wr : World) (B : Nat) (e : TypeId) (size n : Nat) (xs : List Value) (v9 v : Value) : Stab (D7o wr B e size n xs v9 v) := fun _ _ ⟨w2, h1, h3, h4, h5⟩ hb => ⟨w2, h1, or_below h3 hb, h4.trans (Only.of_below hb), h5⟩
theorem apo_run {wr w : World} {fs : List (Nat × Obj)} {cs : Array Value} {B : Nat} (t ty e : TypeId) (it : TypeInfo) (z : Value) (size bytes : Nat) (ht : Try.prog.underlying t = some (.slice e)) (hi : Try.prog.info? e = some it) (hz : it.zero = some z)
    (hsize : it.size = size) (hby : it.bytes = bytes) (hzs : z.cells.size = size) (h0 : 0 < size) {v9 : Value} {n : Nat} {xs : List Value} (hrow : wr.ownsRow B e size v9 n xs) (hB : B ≤ wr.heap.size) (hn : ∀ p ∈ fs, ¬ v9.ownBlock = some p.1)
    (hl : cs.toList.length = size) (h1 : ∀ u ∈ cs.toList, u.oneCell' = true) (h63 : n + 1 ≤ 1000000000) (hbb : bytes ≤ 64) {v : Value} (hc : FC wr (fun k => v9.ownBlock = some k) fs w ∧ Triv w) (hd : D6 wr e cs v w) :
    ∃ u w', (Builtin.append_ #[t, t] ty #[v9, v]).run Try.prog w = .ok u w' ∧ stepR (fun w => FC wr (fun k => v9.ownBlock = some k) fs w ∧ Triv w) (fun _ => Triv) (D7o wr B e size (n + 1) (xs ++ cs.toList) v9) u w' := by
  obtain ⟨hb, H, h2, rfl, h4⟩ := hd
  have hr : Reads w w.heap.size size (some ⟨H, 0, none⟩) 1 cs.toList := ⟨by rw [hl, Nat.one_mul], fun _ => ⟨_, rfl, only_lt h4, World.news_of_block h4⟩⟩
  obtain ⟨u, W', hrun, g2, g3, g4⟩ := run_append_any (P := Try.prog) w B t ty e it z size bytes ht hi hz hsize hby hzs h0 v9 n xs (or_below hrow hb) w.heap.size (some ⟨H, 0, none⟩) 1 1 cs.toList hr h1 (by unfold maxLen; omega) (by
    have : (n + 1) * bytes ≤ 1000000000 * 64 := Nat.mul_le_mul h63 hbb
    omega) (Nat.le_trans hB hb.size)
  have hO : Only (fun i => v9.ownBlock = some i) w W' := ⟨g3.os, g3.tape, g3.output, g3.size, fun i hi hn => g3.block i hi (fun e => hn e.symm)⟩
  exact ⟨u, W', hrun, ⟨FC.step hn _ _ hc.1 hO, triv _⟩, triv _, w, hb, g2, hO, g4⟩
theorem infoPl : (Try.prog.info? 115).map (fun i => (i.zero, i.size, i.bytes)) = some (some (.agg #[.int .i64 0, .slice none 0 0]), 2, 32) := by kernel_rfl
set_option maxHeartbeats 8000000 in
set_option maxRecDepth 100000 in
theorem ppop_any {x : Plc} (hn : n + 1 = A.length) (hx : A.getD n plD = x) (h31 : A.length ≤ 1000000) (h : HpM w B g v A) : Calls Try.prog 118 #[.pointer (some ⟨g, 0, none⟩)] w fun e w' => e = .returned (plV x) ∧ (∃ v', v'.ownBlock = v.ownBlock ∧ HpM w' B g v' (A.take n)) ∧ Only (fun k => k = g) w w' := by
  obtain ⟨g0, c0, gx, ox, nx, cx, rfl, hx1, hx0, hxl, p0, p1, _⟩ := h.at_ (k := n) (by omega)
  rw [hx] at hx1 p0
  obtain ⟨x1, x2, x3⟩ := x
  simp only at hx1 p0
  subst hx1
  have H := Lib.hid h
  obtain ⟨N, hN⟩ : ∃ N, A.length = N := ⟨_, rfl⟩
  have d0 := cellAt (o := 0) h.box rfl
  have f0 := freeAt 0 h.box
  rw [hN] at d0 hn h31
  have HN := Lib.hid hN
  have HNN := Lib.hid hn
  have hnI : (n : Int) < (N : Int) := by omega
  have hnN : n < N := by omega
  have hwn : IntKind.i64.wrap ((N : Int) - 1) = (n : Int) := by rw [IntKind.wrap_i64]; omega
  have HX := Lib.hid (newB w (.cells #[.int .i64 (x1 : Int), .slice (some ⟨gx, ox, none⟩) nx cx] 115))
  have hc0 : N ≤ c0 := by
    rcases h.row.2 with ⟨h4, _⟩ | ⟨g2, c2, cu2, h4, _, _, h6, _⟩
    · cases h4
    · cases h4; omega
  have hcI : (n : Int) ≤ (c0 : Int) := by omega
  have hcN : n ≤ c0 := by omega
  have hgl := only_lt h.box
  have hne1 : ¬ w.heap.size = g := by omega
  have hne2 : ¬ g = w.heap.size := by omega
  have b1 := keepA h.box (.cells #[.int .i64 (x1 : Int), .slice (some ⟨gx, ox, none⟩) nx cx] 115)
  rw [hN] at b1
  have k0 := cellAt (o := 0) b1 rfl
  have k1 := freeAt 0 b1
  have HB1 := Lib.hid b1
  have y0 := cellAt (o := 0) HX.out rfl
  have y1 := cellAt (o := 1) HX.out rfl
  clear h hx hxl hn hN hgl hc0 b1
  go_enter Try.func118, Try.ntmps118
  go_wp2_with fail
  refine bodyPost_ret (v := plV (x1, .slice (some ⟨gx, ox, none⟩) nx cx, x3)) (by simp only [results, Try.results118]; go_simp) rfl ?_
  have hM := H.out.below (below_alloc (Below.refl w.heap.size w) (.cells #[.int .i64 (x1 : Int), .slice (some ⟨gx, ox, none⟩) nx cx] 115))
  rw [HN.out] at hM
  exact ⟨rfl, ⟨.slice (some ⟨g0, 0, none⟩) n c0, rfl, hM.cut (n := n) (Nat.le_of_lt (by have := HNN.out; omega))⟩, (Only.of_below (below_alloc (Below.refl w.heap.size w) _)).trans (Only.set _ g 0 _)⟩
set_option maxHeartbeats 8000000 in
set_option maxRecDepth 100000 in
theorem ppush_any {x : Plc} (h31 : A.length ≤ 1000000) (h : HpM w B g v A) (hx0 : 0 < x.2.2.length) (hx : RowAt w (fun k => B ≤ k) 86 3 x.2.1 x.2.2.length (pcs x.2.2)) : Calls Try.prog 119 #[.pointer (some ⟨g, 0, none⟩), plV x] w fun e w' => (∃ u, e = .returned u) ∧ (∃ v', HpM w' B g v' (A ++ [x]) ∧ (v'.ownBlock = v.ownBlock ∨ ∀ k, v'.ownBlock = some k → w.heap.size ≤ k)) ∧ Only (fun k => k = g ∨ v.ownBlock = some k) w w' := by
  have H := Lib.hid (And.intro h hx)
  obtain ⟨a, c0, rfl⟩ := or_form h.row
  obtain ⟨N, hN⟩ : ∃ N, A.length = N := ⟨_, rfl⟩
  rw [hN] at h31
  have hsl : ∃ ad nx cx, x.2.1 = .slice (some ad) nx cx := by
    obtain ⟨A', c', hv, _, _, hr, _⟩ := hx.form
    obtain ⟨ad, rfl, _⟩ := hr.2 hx0
    exact ⟨ad, _, c', hv⟩
  obtain ⟨ad, nx, cx, hv⟩ := hsl
  obtain ⟨x1, x2, x3⟩ := x
  simp only at hv
  subst hv
  have hb : w.heap[g]? = some (.cells #[.slice a N c0] 112 (0, 0)) := by rw [← hN]; exact h.box
  have HB := Lib.hid hb
  have hFN : ∀ p ∈ [(g, Obj.cells #[.slice a N c0] 112)], ¬ (Value.slice a N c0).ownBlock = some p.1 := fun p hp => by
    simp only [List.mem_cons, List.not_mem_nil, or_false] at hp
    subst hp
    have := h.gne
    rw [hN] at this
    exact this
  have HFN := Lib.hid hFN
  have HFC : Hid (FC w (fun k => (Value.slice a N c0).ownBlock = some k) [(g, Obj.cells #[.slice a N c0] 112)] w) := Lib.hid ⟨Only.refl _ _, fun p hp => by
    simp only [List.mem_cons, List.not_mem_nil, or_false] at hp
    subst hp
    exact hb⟩
  have hrow := h.row
  rw [hN] at hrow
  have HR := Lib.hid hrow
  have HN := Lib.hid hN
  obtain ⟨ip, hip, hz1, hz2, hz3⟩ := info_parts infoPl
  have HIP := Lib.hid (And.intro hip (And.intro hz1 (And.intro hz2 hz3)))
  have HX0 := Lib.hid hx0
  clear h hx hx0 hN hb hFN hrow hip hz1 hz2 hz3
  go_enter Try.func119, Try.ntmps119
  go_wp2_with fail
  refine wp_region_two 8 [(0, false), (1, false), (2, false), (3, false), (4, false), (5, false), (6, true), (7, true)] [] [] rfl (FC w (fun k => (Value.slice a N c0).ownBlock = some k) [(g, Obj.cells #[.slice a N c0] 112)]) (D0 w) (by kernel_rfl) (by kernel_rfl) FC.stab (D0.stab w) (FC.stab _ _ HFC.out (Below.refl _ _).drew) (Below.refl _ _).drew ?_
  repeat (first | (refine wt_q rfl rfl ?_; apply Exists.intro; refine ⟨fun w' hw' => ?_, fun K hK => ?_⟩; (focus ((have q0 := hw'.get 0 rfl; have k0 := cellAt (o := 0) (v := .slice a N c0) q0 rfl; clear q0); go_simp; first | exact quiet_value | fail)); simp only [Act.put, List.setIfInBounds_toArray, List.set_cons_zero, List.set_cons_succ]; refine hK.out _ ?_; clear hK K) | (refine wt_skip rfl rfl (fun K hK => ?_); simp only [Act.put, List.setIfInBounds_toArray, List.set_cons_zero, List.set_cons_succ]; refine hK.out _ ?_; clear hK K))
  refine wt_bs 115 #[.int .i64 (x1 : Int), .slice (some ad) nx cx] rfl rfl rfl (fun w' hc hd => ?_) (fun K hK v => ?_)
  focus
    have HCd := Lib.hid (And.intro hc hd)
    clear hc hd
    go_simp
    exact bs_res HCd.out.1 HCd.out.2 rfl
  simp only [Act.put, List.setIfInBounds_toArray, List.set_cons_zero, List.set_cons_succ]
  refine hK.out _ _ _ ?_
  clear hK K
  refine wt_step rfl (fun _ => Triv) (D7o w B 115 2 (N + 1) (rowF plc A ++ [.int .i64 (x1 : Int), .slice (some ad) nx cx]) (.slice a N c0)) (fun _ _ _ _ _ => triv _) (fun _ => D7o.stab _ _ _ _ _ _ _ _) rfl rfl (fun w' hc hd => ?_) (fun K hK v' => ?_)
  focus
    have hB : B ≤ w.heap.size := Nat.le_trans H.out.1.gB (Nat.le_of_lt (only_lt H.out.1.box))
    obtain ⟨u, w3, hrun, hres⟩ := apo_run 112 112 115 ip _ 2 32 Try.underlying112 HIP.out.1 HIP.out.2.1 HIP.out.2.2.1 HIP.out.2.2.2 rfl (by decide) HR.out hB HFN.out rfl (fun u hu => by
      simp only [List.mem_cons, List.not_mem_nil, or_false] at hu
      rcases hu with rfl | rfl <;> rfl) (by omega) (by omega) hc hd
    exact st_ap (.tmp 7) (.tmp 10) rfl rfl rfl hrun hres
  simp only [Act.put, List.setIfInBounds_toArray, List.set_cons_zero, List.set_cons_succ]
  refine hK.out _ _ _ ?_
  clear hK K
  refine wt_nil ?_
  rintro w9 ⟨⟨hc9, _⟩, _⟩ ⟨w2, hb9, hr9, ho9, hu9⟩
  have b9 := hc9.get 0 rfl
  have k0 := cellAt (o := 0) b9 rfl
  have f0 := freeAt 0 b9
  obtain ⟨a', c', rfl⟩ := or_form hr9
  have H9 := Lib.hid (And.intro b9 (And.intro hb9 (And.intro hr9 (And.intro ho9 hu9))))
  clear hc9 hb9 hr9 ho9 hu9 b9
  try simp only [List.drop_succ_cons, List.drop_zero]
  go_wp2_with fail
  go_end0
  obtain ⟨b9, hb9, hr9, ho9, hu9⟩ := H9.out
  obtain ⟨hM, hx⟩ := H.out
  have hgl := only_lt HB.out
  have hgne : (Value.slice a N c0).ownBlock ≠ some g := fun e => hM.gne (by rw [HN.out]; exact e)
  have hs2 := hb9.size
  have hOa : Only (fun k => (Value.slice a N c0).ownBlock = some k) w w9 := (Only.of_below hb9).trans ho9
  have hOs := Only.set w9 g 0 (.slice a' (N + 1) c')
  have hOt : Only (fun k => k = g ∨ (Value.slice a N c0).ownBlock = some k) w (w9.setCell ⟨g, 0, none⟩ (.slice a' (N + 1) c')) := (hOa.mono (fun k _ e => .inr e)).trans (hOs.mono (fun k _ e => .inl e))
  have hne9 : (Value.slice a' (N + 1) c').ownBlock ≠ some g := fun e => by
    rcases hu9 with e1 | e1
    · rw [e1] at e; exact hgne e
    · rw [e1] at e; cases e; omega
  have hkeep : ∀ {y : Value} {n : Nat} {xs : List Value}, RowAt w (fun k => B ≤ k) 86 3 y n xs → RowAt (w9.setCell ⟨g, 0, none⟩ (.slice a' (N + 1) c')) (fun k => B ≤ k) 86 3 y n xs := fun {y n xs} hy => hy.keep' hOt (fun k hk e => by
    rcases hy.2 with ⟨h1, _⟩ | ⟨g1, o1, c1, cu1, h1, _, h3, _⟩
    · rw [h1] at hk; cases hk
    · rw [h1] at hk; cases hk
      rcases e with e | e
      · have e : g1 = g := e
        rw [e, HB.out] at h3; cases h3
      · rcases HR.out.2 with ⟨h4, _⟩ | ⟨g2, c2, cu2, h4, _, h6, _⟩
        · rw [h4] at e; cases e
        · rw [h4] at e; cases e
          rw [h3] at h6; cases h6)
  refine ⟨⟨_, rfl⟩, ⟨_, ⟨hM.gB, setCell_get (o := 0) b9, ?_, fun y hy => ?_⟩, ?_⟩, by rw [HN.out]; exact hOt⟩
  · rw [List.length_append, HN.out, rowF_append]
    exact or_only hr9 hOs (fun k hk e => hne9 (by rw [← show k = g from e]; exact hk))
  · rcases List.mem_append.1 hy with hy | hy
    · exact ⟨(hM.rest y hy).1, hkeep (hM.rest y hy).2⟩
    · obtain rfl := List.mem_singleton.1 hy
      exact ⟨HX0.out, hkeep hx⟩
  · rw [HN.out]
    exact hu9.imp id (fun e k hk => by rw [e] at hk; cases hk; omega)
end
end Go.Proofs.Ytangcgfchalnaaa

/- container/heap over places: Init, Pop, Push. -/
namespace Go.Proofs.Ytangcgfchalnaaa
open Go.RowKit
section
variable {w w' : World} {B g i j n N : Nat} {v : Value} {A : List Plc}
set_option maxHeartbeats 8000000 in
set_option maxRecDepth 100000 in
theorem hinit_any (h : HpM w B g v A) (h31 : A.length ≤ 1000000) : Calls Try.prog 61 #[plI g] w fun e w' =>
    (∃ u, e = .returned u) ∧ ∃ A', HpM w' B g v A' ∧ A'.Perm A ∧ HeapF ltP plD A' 0 A'.length ∧ Only (fun k => v.ownBlock = some k) w w' := by
  have H := Lib.hid h
  have hml := m_len g v w (cellAt (o := 0) h.box rfl)
  obtain ⟨n, hn⟩ : ∃ n, A.length = n := ⟨_, rfl⟩
  have CL := Lib.hid (plen_any hn h)
  rw [hn] at h31
  have HN := Lib.hid hn
  obtain ⟨m0, hm0⟩ : ∃ m, n / 2 = m := ⟨_, rfl⟩
  have hm1 : m0 ≤ 1000000 := by omega
  have ht : Int.tdiv (n : Int) 2 = (m0 : Int) := by rw [← hm0]; rfl
  have hw1 : IntKind.i64.wrap (m0 : Int) = (m0 : Int) := by rw [IntKind.wrap_i64]; omega
  have hw2 : IntKind.i64.wrap ((m0 : Int) - 1) = (m0 : Int) - 1 := by rw [IntKind.wrap_i64]; omega
  have HM0 := Lib.hid hm0
  clear h hn hm0
  go_enter Try.func61, Try.ntmps61
  go_wp2_with fail
  refine CL.out.mono ?_
  rintro e w1 ⟨rfl, rfl⟩
  go_wp2_with fail
  clear hml ht hw1 hw2
  go_loopw [3] (fun iv wr => ∃ (m : Nat) (A1 : List Plc), iv = .int .i64 ((m : Int) - 1) ∧ m ≤ 1000000 ∧ Hid (HpM wr B g v A1 ∧ A1.length = n ∧ A1.Perm A ∧ HeapF ltP plD A1 m n ∧ Only (fun k => v.ownBlock = some k) w wr)) (fun iv _ => (intOf iv + 1).toNat)
  case atStart => exact ⟨m0, A, rfl, hm1, Lib.hid ⟨H.out, HN.out, List.Perm.refl _, by rw [← HM0.out]; exact HeapF.half, Only.refl _ _⟩⟩
  case round =>
    obtain ⟨m, A1, rfl, hm, HS⟩ := hrel
    by_cases h0 : m = 0
    · have HM : Hid (m = 0) := Lib.hid h0
      have h0I : ¬ 0 ≤ (m : Int) - 1 := by omega
      clear h0
      go_wp2_with fail
      go_end0
      obtain ⟨a1, a2, a3, a4, a5⟩ := HS.out
      rw [HM.out] at a4
      exact ⟨⟨_, rfl⟩, A1, a1, a3, by rw [a2]; exact a4, a5⟩
    · obtain ⟨j, hj⟩ : ∃ j, m = j + 1 := ⟨m - 1, by omega⟩
      have hjI : (m : Int) - 1 = (j : Int) := by omega
      have HJ := Lib.hid hj
      rw [hjI]
      have hw : IntKind.i64.wrap ((j : Int) - 1) = (j : Int) - 1 := by rw [IntKind.wrap_i64]; omega
      have h0I : 0 ≤ (j : Int) := by omega
      have CD := Lib.hid (down_any (n := n) HS.out.1 (by have := HS.out.2.1; omega) (i := j) (by omega) (by have := HS.out.2.1; omega) (by have := HS.out.2.2.2.1; rw [hj] at this; exact this))
      clear h0 hj hjI
      go_wp2_with fail
      refine CD.out.mono ?_
      rintro e w2 ⟨⟨u, rfl⟩, A2, hM2, hP2, _, hH2, hO2⟩
      have HS2 := Lib.hid (And.intro hM2 (And.intro hP2 (And.intro hH2 hO2)))
      clear hM2 hP2 hH2 hO2
      go_wp2_with fail
      go_roundw
      case rel =>
        obtain ⟨a1, a2, a3, a4, a5⟩ := HS.out
        obtain ⟨b1, b2, b3, b4⟩ := HS2.out
        exact ⟨j, A2, by go_num, by have := HJ.out; omega, Lib.hid ⟨b1, by rw [b2.length_eq]; exact a2, b2.trans a3, b3, a5.trans b4⟩⟩
      case measure => simp [intOf]
set_option maxHeartbeats 8000000 in
set_option maxRecDepth 100000 in
theorem hpop_any (h : HpM w B g v A) (h0 : 0 < A.length) (h31 : A.length ≤ 1000000) (hH : HeapF ltP plD A 0 A.length) : Calls Try.prog 62 #[plI g] w fun e w' =>
    e = .returned (plV (A.getD 0 plD)) ∧ ∃ v' A', HpM w' B g v' A' ∧ (A.getD 0 plD :: A').Perm A ∧ HeapF ltP plD A' 0 A'.length ∧ v'.ownBlock = v.ownBlock ∧ Only (fun k => k = g ∨ v.ownBlock = some k) w w' := by
  obtain ⟨n, hn⟩ : ∃ n, A.length = n + 1 := ⟨A.length - 1, by omega⟩
  obtain ⟨N, hN⟩ : ∃ N, n + 1 = N := ⟨_, rfl⟩
  have H := Lib.hid (And.intro h (And.intro hH hn))
  have hml := m_len g v w (cellAt (o := 0) h.box rfl)
  have hms := m_swap g v w (cellAt (o := 0) h.box rfl)
  have CL := Lib.hid (plen_any (N := N) (by omega) h)
  have CS := Lib.hid (swap_any (i := 0) (j := n) h (by omega) (by omega))
  have hw : IntKind.i64.wrap ((N : Int) - 1) = (n : Int) := by rw [IntKind.wrap_i64]; omega
  obtain ⟨x, hx⟩ : ∃ x, A.getD 0 plD = x := ⟨_, rfl⟩
  rw [hx]
  have HX := Lib.hid hx
  have hm0 : ((0 : Nat) : Int) = 0 := rfl
  rw [hm0] at CS
  clear h hH hN h0 hx hm0
  go_enter Try.func62, Try.ntmps62
  go_wp2_with fail
  refine CL.out.mono ?_
  rintro e w1 ⟨rfl, rfl⟩
  clear CL
  go_wp2_with fail
  refine CS.out.mono ?_
  rintro e w1 ⟨⟨u, rfl⟩, hM1, hO1⟩
  have hl1 : (swapL A 0 n plD).length = n + 1 := by rw [swapL_len]; exact hn
  have CD := Lib.hid (down_any (n := n) (i := 0) hM1 (by omega) (by omega) (by omega) (HeapF.swap0 (by rw [← hn]; exact H.out.2.1) (by omega)))
  have hz : ((0 : Nat) : Int) = 0 := rfl
  rw [hz] at CD
  have HO1 := Lib.hid hO1
  clear hM1 hO1 hl1 CS hz hml hms hw
  go_wp2_with fail
  refine CD.out.mono ?_
  rintro e w2 ⟨⟨u2, rfl⟩, A2, hM2, hP2, hD2, hH2, hO2⟩
  have hl2 : A2.length = n + 1 := by rw [hP2.length_eq, swapL_len]; exact hn
  have hx2 : A2.getD n plD = x := by
    rw [hD2 n (Nat.le_refl _), swapL_get (by omega) (by omega), if_pos rfl]; exact HX.out
  have hmp := m_pop g w2
  have CP := Lib.hid (ppop_any (n := n) hl2.symm hx2 (by omega) hM2)
  have HS2 := Lib.hid (And.intro hl2 (And.intro hx2 (And.intro hP2 (And.intro hH2 hO2))))
  clear hM2 hP2 hD2 hH2 hO2 hl2 hx2 CD
  go_wp2_with fail
  refine CP.out.mono ?_
  rintro e w3 ⟨rfl, ⟨v', hv', hM3⟩, hO3⟩
  have H3 := Lib.hid (And.intro hv' (And.intro hM3 hO3))
  clear hv' hM3 hO3 CP hmp
  go_wp2_with fail
  refine bodyPost_ret (v := plV x) (by simp only [results, Try.results62]; go_simp) rfl ?_
  obtain ⟨hv', hM3, hO3⟩ := H3.out
  obtain ⟨hl2, hx2, hP2, hH2, hO2⟩ := HS2.out
  refine ⟨rfl, v', A2.take n, hM3, ?_, ?_, hv', ((HO1.out.mono (fun k _ e => .inr e)).trans (hO2.mono (fun k _ e => .inr e))).trans (hO3.mono (fun k _ e => .inl e))⟩
  · have e1 : A2 = A2.take n ++ [x] := by
      rw [← hx2, List.getD_eq_getElem?_getD, List.getElem?_eq_getElem (by omega)]
      show A2 = A2.take n ++ [A2[n]]
      rw [List.take_append_getElem, List.take_of_length_le (by omega)]
    have e2 : (x :: A2.take n).Perm A2 := by
      refine (List.perm_append_comm (l₁ := [x]) (l₂ := A2.take n)).trans ?_
      rw [← e1]
    exact (e2.trans hP2).trans (swapL_perm (by omega) (by omega))
  · have e : (A2.take n).length = n := by rw [List.length_take]; omega
    rw [e]
    refine hH2.congr (fun k hk => ?_)
    rw [List.getD_eq_getElem?_getD, List.getD_eq_getElem?_getD, List.getElem?_take, if_pos hk]
set_option maxHeartbeats 8000000 in
set_option maxRecDepth 100000 in
theorem hpush_any {x : Plc} (h : HpM w B g v A) (h31 : A.length ≤ 900000) (hH : HeapF ltP plD A 0 A.length) (hx0 : 0 < x.2.2.length) (hx : RowAt w (fun k => B ≤ k) 86 3 x.2.1 x.2.2.length (pcs x.2.2)) : Calls Try.prog 64 #[plI g, plV x] w fun e w' =>
    (∃ u, e = .returned u) ∧ ∃ v' A', HpM w' B g v' A' ∧ A'.Perm (A ++ [x]) ∧ HeapF ltP plD A' 0 A'.length ∧ (v'.ownBlock = v.ownBlock ∨ ∀ k, v'.ownBlock = some k → w.heap.size ≤ k) ∧ Only (fun k => k = g ∨ v.ownBlock = some k) w w' := by
  obtain ⟨n, hn⟩ : ∃ n, A.length = n := ⟨_, rfl⟩
  obtain ⟨N, hN⟩ : ∃ N, n + 1 = N := ⟨_, rfl⟩
  have CP := Lib.hid (ppush_any (by omega) h hx0 hx)
  have HH := Lib.hid hH
  have hmp := m_push g w
  have hw : IntKind.i64.wrap ((N : Int) - 1) = (n : Int) := by rw [IntKind.wrap_i64]; omega
  have HN := Lib.hid (And.intro hn hN)
  rw [hn] at h31
  clear h hH hx0 hx hn hN
  obtain ⟨x1, x2, x3⟩ := x
  go_enter Try.func64, Try.ntmps64
  go_wp2_with fail
  refine CP.out.mono ?_
  rintro e w1 ⟨⟨u, rfl⟩, ⟨v1, hM1, hv1⟩, hO1⟩
  have hl1 : (A ++ [(x1, x2, x3)]).length = N := by rw [List.length_append, List.length_singleton, HN.out.1]; exact HN.out.2
  have hml := m_len g v1 w1 (cellAt (o := 0) hM1.box rfl)
  have CL := Lib.hid (plen_any (N := N) hl1 hM1)
  have CU := Lib.hid (up_any (j := n) hM1 (by have := HN.out; omega) (by have := HN.out; omega) (by
    have := UpI.start (x := (x1, x2, x3)) HH.out rfl
    rw [hl1, ← HN.out.2]
    rw [HN.out.1] at this
    exact this))
  have H1 := Lib.hid (And.intro hv1 hO1)
  clear hM1 hv1 hO1 hl1 hmp CP
  go_wp2_with fail
  refine CL.out.mono ?_
  rintro e w2 ⟨rfl, rfl⟩
  go_wp2_with fail
  refine CU.out.mono ?_
  rintro e w2 ⟨⟨u2, rfl⟩, A2, hM2, hP2, hH2, hO2⟩
  have H2 := Lib.hid (And.intro hM2 (And.intro hP2 (And.intro hH2 hO2)))
  clear hM2 hP2 hH2 hO2 CL CU hml
  go_wp2_with fail
  go_end0
  obtain ⟨hM2, hP2, hH2, hO2⟩ := H2.out
  obtain ⟨hv1, hO1⟩ := H1.out
  refine ⟨⟨_, rfl⟩, v1, A2, hM2, hP2, hH2, hv1, hO1.then hO2 (fun k hk e => ?_)⟩
  rcases hv1 with h | h
  · rw [h] at e; exact .inr e
  · have := h k e; omega
end
end Go.Proofs.Ytangcgfchalnaaa

/- intern: a row of numbers of a map's key grows. -/
namespace Go.Proofs.Ytangcgfchalnaaa
open Go.RowKit Go.MapKept
theorem infoInt : (Try.prog.info? 3).map (fun i => (i.zero, i.size, i.bytes)) = some (some (.int .i64 0), 1, 8) := by kernel_rfl
theorem IntAt.own_ {w : World} {F : Nat → Prop} {own : Nat → Nat × ByteArray} {p : Nat × ByteArray} {B : Nat} {v : Value} (h : IntAt w F own p B v) : ∃ n xs, n ≤ B ∧ w.ownsRow 0 3 1 v n xs ∧ ∀ g, v.ownBlock = some g → F g ∧ own g = p := by
  rcases h with rfl | ⟨g, n, c, cur, rfl, h2, h3, h4, h5, h6, h7, h8⟩
  · exact ⟨0, [], Nat.zero_le _, World.ownsRow_nil _ _ _ _, fun g e => (by cases e)⟩
  · exact ⟨n, cur.toList.take n, h6, ⟨by rw [List.length_take, Array.length_toList]; omega, .inr ⟨g, c, cur, rfl, Nat.zero_le _, h4, h5, h7, by omega, by simp⟩⟩, fun g' e => (by cases e; exact ⟨h2, h3⟩)⟩
theorem IntAt.of_own {w : World} {F : Nat → Prop} {own : Nat → Nat × ByteArray} {p : Nat × ByteArray} {B n : Nat} {v : Value} {xs : List Value} (h : w.ownsRow 0 3 1 v n xs) (hn : n ≤ B) (hF : ∀ g, v.ownBlock = some g → F g ∧ own g = p) : IntAt w F own p B v := by
  rcases h.2 with ⟨rfl, _⟩ | ⟨g, c, cur, rfl, _, h4, h5, h6, h7, _⟩
  · exact .inl rfl
  · exact .inr ⟨g, n, c, cur, rfl, (hF g rfl).1, (hF g rfl).2, h4, h5, hn, h6, by omega⟩
/-- An append of one number: its run, and what it leaves. -/
theorem int_app {W : World} {F : Nat → Prop} {own : Nat → Nat × ByteArray} {p : Nat × ByteArray} {B H : Nat} {v : Value} {x : Int} (h : IntAt W F own p B v) (hg : W.heap[H]? = some (.cells #[.int .i64 x] 3 (0, 0))) (hB : B ≤ 1000000) (ty : TypeId) :
    ∃ n xs u W', (Builtin.append_ #[39, 39] ty #[v, .slice (some ⟨H, 0, none⟩) 1 1]).run Try.prog W = .ok u W' ∧ n ≤ B + 1 ∧ W'.ownsRow 0 3 1 u n xs ∧ Only (fun i => v.ownBlock = some i) W W' ∧ (u.ownBlock = v.ownBlock ∨ u.ownBlock = some W.heap.size) := by
  obtain ⟨n, xs, hn, ho, _⟩ := h.own_
  obtain ⟨i0, hi, hz0, hz1, hz2⟩ := info_parts infoInt
  have hr : Reads W W.heap.size 1 (some ⟨H, 0, none⟩) 1 [.int .i64 x] := ⟨rfl, fun _ => ⟨_, rfl, only_lt hg, World.news_of_block hg⟩⟩
  obtain ⟨u, W', hrun, g2, g3, g4⟩ := run_append_any (P := Try.prog) W 0 39 ty 3 i0 _ 1 8 Try.underlying39 hi hz0 hz1 hz2 rfl (by decide) v n xs ho W.heap.size (some ⟨H, 0, none⟩) 1 1 [.int .i64 x] hr (fun u hu => by rw [List.mem_singleton.1 hu]; rfl) (by unfold maxLen; omega) (by omega) (Nat.zero_le _)
  exact ⟨n + 1, _, u, W', hrun, by omega, g2, ⟨g3.os, g3.tape, g3.output, g3.size, fun i hi hn => g3.block i hi (fun e => hn e.symm)⟩, g4⟩
/-- A look-up, told for every world in which the map is the same. -/
theorem MapV.look2 {P : Program} {T K E : TypeId} {w : World} {r : Nat} {V : ByteArray → Value → Prop} {z : Value} (hT : P.underlying T = some (.map K E)) (hK : P.underlying K = some .string) (hz : ∀ w, (zeroValue E).run P w = .ok z w) (h : MapV w r V) (k : ByteArray) :
    ∃ v, (∀ W : World, W.heap[r]? = w.heap[r]? → (Instr.lookup T (.map (some r)) (.string k) false).run P W = .ok v W) ∧ (v = z ∨ V k v) := by
  obtain ⟨es, c, h1, _, h2⟩ := h
  have hk : IsKey .string (.string k) := trivial
  have hks : ∀ x ∈ es.toList, IsKey .string x.key := fun x hx => by obtain ⟨s, e, _⟩ := h2 x hx; rw [e]; trivial
  have hc := fun b w => run_checkKey (P := P) (w := w) hK hk b 9999
  simp only [Nat.reduceAdd] at hc
  rcases findNow_spec hk es.toList 0 hks with ⟨h3, _⟩ | ⟨j, e, h3, h4, h5⟩
  · exact ⟨z, fun W hW => by simp [Instr.lookup, run_underlying hT, hc, run_findKey hK h3, Go.MapKept.run_getObj_map (hW.trans h1), Result.andThen, hz], .inl rfl⟩
  · refine ⟨e.val, fun W hW => by simp [Instr.lookup, run_underlying hT, hc, run_findKey hK h3, Go.MapKept.run_getObj_map (hW.trans h1), Result.andThen], .inr ?_⟩
    obtain ⟨s, e1, e2⟩ := h2 e (List.mem_of_getElem? h4)
    rw [h5] at e1
    cases e1
    exact e2
/-- A look-up of a key that is there. -/
theorem MapV.look3 {P : Program} {T K E : TypeId} {w : World} {r : Nat} {V : ByteArray → Value → Prop} (hT : P.underlying T = some (.map K E)) (hK : P.underlying K = some .string) (h : MapV w r V) (k : ByteArray) (hin : ∃ es c, w.heap[r]? = some (.map es c) ∧ ∃ e ∈ es.toList, e.key = .string k) :
    ∃ v, (∀ W : World, W.heap[r]? = w.heap[r]? → (Instr.lookup T (.map (some r)) (.string k) false).run P W = .ok v W) ∧ V k v := by
  obtain ⟨es, c, h1, _, h2⟩ := h
  obtain ⟨es', c', h1', e0, he0, hek⟩ := hin
  rw [h1] at h1'; cases h1'
  have hk : IsKey .string (.string k) := trivial
  have hks : ∀ x ∈ es.toList, IsKey .string x.key := fun x hx => by obtain ⟨s, e, _⟩ := h2 x hx; rw [e]; trivial
  have hc := fun b w => run_checkKey (P := P) (w := w) hK hk b 9999
  simp only [Nat.reduceAdd] at hc
  rcases findNow_spec hk es.toList 0 hks with ⟨_, hne⟩ | ⟨j, e, h3, h4, h5⟩
  · exact absurd hek (hne e0 he0)
  · refine ⟨e.val, fun W hW => by simp [Instr.lookup, run_underlying hT, hc, run_findKey hK h3, Go.MapKept.run_getObj_map (hW.trans h1), Result.andThen], ?_⟩
    obtain ⟨s, e1, e2⟩ := h2 e (List.mem_of_getElem? h4)
    rw [h5] at e1
    cases e1
    exact e2
end Go.Proofs.Ytangcgfchalnaaa
