/- A batch's bytes; an item's. -/
import Derived.Test.YtjnkcgegmffncaaSbB
import Derived.Test.YtjnkcgegmffncaaQuP
namespace Go.Proofs.Ytjnkcgegmffncaa
open Go.RowKit
/-- A change as bytes. -/
def chB (x : Ch) : List UInt8 := txtB ⟨(labB x.1).toArray⟩ ++ ([if x.2.2.2 then 1 else 0] ++ (if x.2.2.2 then [] else valB x.2.1 x.2.2.1))
def chsB : List Ch → List UInt8
  | [] => []
  | x :: r => chB x ++ chsB r
theorem chsB_snoc (L : List Ch) (x : Ch) : chsB (L ++ [x]) = chsB L ++ chB x := by
  induction L with
  | nil => simp [chsB]
  | cons y r ih => simp only [List.cons_append, chsB, ih, List.append_assoc]
theorem lb_size (L : List Lb) : (ByteArray.mk (labB L).toArray).size = (labB L).length := by simp [ByteArray.size]
theorem smallL_len {L : List Lb} (h : smallL L) : (labB L).length ≤ 18540 := by
  have := labB_len L h.2
  have := h.1
  omega
theorem chB_len {x : Ch} (h : smallL x.1) (hk : In64 x.2.1) : (chB x).length ≤ 18600 := by
  have h1 := smallL_len h
  have h2 := txtB_len (s := ByteArray.mk (labB x.1).toArray) (by rw [lb_size]; omega)
  rw [lb_size] at h2
  have h3 := valB_len (ov := x.2.2.1) hk
  unfold chB
  rw [List.length_append, List.length_append]
  split <;> simp <;> omega
theorem chsB_len : ∀ (C : List Ch), (∀ x ∈ C, smallL x.1 ∧ In64 x.2.1) → (chsB C).length ≤ 18600 * C.length
  | [], _ => by simp [chsB]
  | x :: r, h => by
    have h1 := chsB_len r (fun y hy => h y (List.mem_cons_of_mem _ hy))
    have h2 := chB_len (h x (by simp)).1 (h x (by simp)).2
    simp only [chsB, List.length_append, List.length_cons]; omega
/-- A batch as bytes. -/
def batB (bt : Int) (C : List Ch) : List UInt8 := numB bt.toNat ++ numB C.length ++ chsB C
/-- Labels that may be, of changes that may be. -/
theorem chgE_lab {x : Ch} (h : chgE x = 0) : labE x.1 = 0 := by
  unfold chgE at h
  split at h
  · rename_i h1; exact h1
  · rename_i h1; exact absurd h h1
set_option maxHeartbeats 8000000 in
set_option maxRecDepth 100000 in
theorem batch_any {A : Option Addr} {c n : Nat} {l : List UInt8} {bt : Int} {ca : Option Addr} {cn cc : Nat} {C : List Cg} {w : World} (hn : l.length = n) (hp : Rd w A l) (hl : n ≤ 500000000) (hb : 0 ≤ bt ∧ bt ≤ 1099511627776) (g : RdCg w ca cn C) (hE : ∀ x ∈ C, chgE (cgC x) = 0) (hS : ∀ x ∈ C, smallL x.1.2.2 ∧ In64 x.2.1) (hc : cn ≤ 40) :
    Calls Try.prog 54 #[.slice A n c, .agg #[.int .i64 bt, .slice ca cn cc]] w (FreshB w (l ++ batB bt (C.map cgC))) := by
  have HB := Lib.hid (below_alloc (Below.refl w.heap.size w) (.cells #[.int .i64 bt, .slice ca cn cc] 36))
  have HX := Lib.hid (newB w (.cells #[.int .i64 bt, .slice ca cn cc] 36))
  have HP := Lib.hid (hp.below HB.out)
  have HG := Lib.hid g
  have HE := Lib.hid hE
  have HS := Lib.hid hS
  have HN := Lib.hid hn
  have HNl := Lib.hid hl
  obtain ⟨tn, htn⟩ : ∃ tn : Nat, bt = (tn : Int) := ⟨bt.toNat, by omega⟩
  subst htn
  have hw1 : IntKind.u64.wrap (tn : Int) = (tn : Int) := by rw [IntKind.wrap_u64]; omega
  have hw2 : IntKind.u64.wrap (cn : Int) = (cn : Int) := by rw [IntKind.wrap_u64]; omega
  have HT64 : Hid (N64 tn) := Lib.hid (by unfold N64; omega)
  have HC64 : Hid (N64 cn) := Lib.hid (by unfold N64; omega)
  obtain ⟨l1, hl1⟩ : ∃ x, l ++ numB tn = x := ⟨_, rfl⟩
  obtain ⟨l2, hl2⟩ : ∃ x, l1 ++ numB cn = x := ⟨_, rfl⟩
  have hl1n : l1.length ≤ 500000009 := by rw [← hl1, List.length_append]; have := numB_len HT64.out; omega
  have hl2n : l2.length ≤ 500000018 := by rw [← hl2, List.length_append]; have := numB_len HC64.out; omega
  have HL1 := Lib.hid (And.intro hl1 hl1n)
  have HL2 := Lib.hid (And.intro hl2 hl2n)
  obtain ⟨R, hR⟩ : ∃ R, l ++ batB (tn : Int) (C.map cgC) = R := ⟨_, rfl⟩
  have hR2 : R = l2 ++ chsB (C.map cgC) := by
    rw [← hR, ← hl2, ← hl1]; unfold batB; rw [List.length_map, g.1, Int.toNat_natCast]; simp only [List.append_assoc]
  rw [hR]
  have HR := Lib.hid hR2
  have d0 := cellAt (o := 0) HX.out rfl
  have d1 := cellAt (o := 1) HX.out rfl
  clear hn hp hl hb g hE hS hl1 hl2 hl1n hl2n hR hR2
  go_enter Try.func54, Try.ntmps54
  go_wp2_with fail
  clear d0 d1
  obtain ⟨w1, hw1e⟩ : ∃ w1, w.alloc (.cells #[.int .i64 (tn : Int), .slice ca cn cc] 36) = w1 := ⟨_, rfl⟩
  rw [hw1e] at HB HX HP ⊢
  clear hw1e
  refine wp_region_fork 11 (.q 0 (.q 1 (.q 2 (.q 3 (.q 5 (.q 6 (.q 7 (.q 8 (.alt 4 (.alt 9 (.q 10 .nil) .stop) .stop))))))))) (Below w1.heap.size w1) Triv (by kernel_rfl) (by kernel_rfl) (Stab.below _ _ (Nat.le_refl _)) TB.stab ((Below.refl _ _).drew) (triv _) ?_
  repeat (first | (refine wf_q rfl rfl ?_; apply Exists.intro; refine ⟨fun w' hw' => ?_, fun K hK => ?_⟩; (focus ((have d0 := cellAt (o := 0) (keepB HX.out hw') rfl; have d1 := cellAt (o := 1) (keepB HX.out hw') rfl); go_simp; first | exact quiet_value | fail)); simp only [Act.put, List.setIfInBounds_toArray, List.set_cons_zero, List.set_cons_succ]; refine hK.out _ ?_; clear hK K) | (refine wf_skip rfl rfl (fun K hK => ?_); simp only [Act.put, List.setIfInBounds_toArray, List.set_cons_zero, List.set_cons_succ]; refine hK.out _ ?_; clear hK K) | (refine wf_skipu rfl rfl (fun K hK => ?_); simp only [Act.put, List.setIfInBounds_toArray, List.set_cons_zero, List.set_cons_succ]; refine hK.out _ ?_; clear hK K))
  refine wf_step (RvB w1.heap.size (l1)) (fun _ => Triv) (RvB.stab _ _) (fun _ => TB.stab) rfl rfl (fun w' hc hd => ?_) (fun K hK v => ?_) wf_stop
  focus
    have HC := Lib.hid hc
    clear hc hd
    skip
    go_simp
    refine st_enter ?_
    exact (HL1.out.1 ▸ number_n HN.out HT64.out (HP.out.below HC.out) (by have := HNl.out; omega)).mono fun e W' h => by
      obtain ⟨u, h1, h2, h3⟩ := h.rv (B := w1.heap.size) (by first | exact HC.out.size | exact HC.out.1.size | exact HC.out.1.1.size)
      exact ⟨u, h1, by first | exact HC.out.trans (h3.mono HC.out.size) | exact ⟨HC.out.1.trans (h3.mono HC.out.1.size), RvB.stab _ _ _ _ _ HC.out.2 h3⟩ | exact ⟨⟨HC.out.1.1.trans (h3.mono HC.out.1.1.size), RvB.stab _ _ _ _ _ HC.out.1.2 h3⟩, RvB.stab _ _ _ _ _ HC.out.2 h3⟩, h2, triv _⟩
  simp only [Act.put, List.setIfInBounds_toArray, List.set_cons_zero, List.set_cons_succ]
  refine hK.out _ _ _ ?_
  clear hK K
  refine wf_step (RvB w1.heap.size (l2)) (fun _ => Triv) (RvB.stab _ _) (fun _ => TB.stab) rfl rfl (fun w' hc hd => ?_) (fun K hK v => ?_) wf_stop
  focus
    have HC := Lib.hid hc
    clear hc hd
    obtain ⟨A4, c4, n4, rfl, hn4, ho4⟩ := HC.out.2
    go_simp
    refine st_enter ?_
    exact (HL2.out.1 ▸ number_n hn4 HC64.out ho4.rd (by have := HL1.out.2; omega)).mono fun e W' h => by
      obtain ⟨u, h1, h2, h3⟩ := h.rv (B := w1.heap.size) (by first | exact HC.out.size | exact HC.out.1.size | exact HC.out.1.1.size)
      exact ⟨u, h1, by first | exact HC.out.trans (h3.mono HC.out.size) | exact ⟨HC.out.1.trans (h3.mono HC.out.1.size), RvB.stab _ _ _ _ _ HC.out.2 h3⟩ | exact ⟨⟨HC.out.1.1.trans (h3.mono HC.out.1.1.size), RvB.stab _ _ _ _ _ HC.out.1.2 h3⟩, RvB.stab _ _ _ _ _ HC.out.2 h3⟩, h2, triv _⟩
  simp only [Act.put, List.setIfInBounds_toArray, List.set_cons_zero, List.set_cons_succ]
  refine hK.out _ _ _ ?_
  clear hK K
  repeat (first | (refine wf_q rfl rfl ?_; apply Exists.intro; refine ⟨fun w' hw' => ?_, fun K hK => ?_⟩; (focus ((skip); go_simp; first | exact quiet_value | fail)); simp only [Act.put, List.setIfInBounds_toArray, List.set_cons_zero, List.set_cons_succ]; refine hK.out _ ?_; clear hK K) | (refine wf_skip rfl rfl (fun K hK => ?_); simp only [Act.put, List.setIfInBounds_toArray, List.set_cons_zero, List.set_cons_succ]; refine hK.out _ ?_; clear hK K) | (refine wf_skipu rfl rfl (fun K hK => ?_); simp only [Act.put, List.setIfInBounds_toArray, List.set_cons_zero, List.set_cons_succ]; refine hK.out _ ?_; clear hK K))
  refine wf_nil ?_
  rintro w4 ⟨⟨hb4, _⟩, A5, c5, n5, rfl, hn5, ho5⟩ _
  have HB4 := Lib.hid (HB.out.trans (hb4.mono HB.out.size))
  have HX4 := Lib.hid (keepB HX.out hb4)
  have HO5 := Lib.hid (OwnB.lower ho5 HB.out.size)
  clear hb4 hn5 ho5 HX HP HL1
  (try simp only [List.drop_succ_cons]); (try simp only [List.drop_zero]); (try simp only [List.drop_nil])
  have d1 := cellAt (o := 1) HX4.out rfl
  go_wp2_with fail
  go_loopw [0, 20] (fun s v wr => ∃ j : Nat, v = .int .i64 (j : Int) ∧ j ≤ cn ∧ Hid (OwnB wr w.heap.size s (l2 ++ chsB ((C.take j).map cgC))) ∧ Hid (Below w.heap.size w wr)) (fun _ v _ => cn - (intOf v).toNat)
  case atStart => exact ⟨0, rfl, Nat.zero_le _, Lib.hid (by simpa [chsB] using HO5.out), HB4⟩
  clear HB4 HO5
  case round =>
    clear d1
    obtain ⟨j, rfl, hj, HO, HBr⟩ := hrel
    obtain ⟨BA, bc, bn, rfl, hbn, hrd⟩ := HO.out.len_
    by_cases h0 : j < cn
    · have hkC : j < C.length := by rw [HG.out.1]; exact h0
      obtain ⟨ad, rfl, _⟩ := HG.out.some_ (by omega)
      obtain ⟨c0, c1, c2, c3⟩ := (HG.out.below HBr.out).at_ hkC
      have hin := List.getElem_mem hkC
      have hrl := (HG.out.below HBr.out).2.2 _ hin
      have hE := HE.out _ hin
      have hS := HS.out _ hin
      have hlb : (chsB ((C.take j).map cgC)).length ≤ 18600 * 40 := by
        have h1 := chsB_len ((C.take j).map cgC) (fun x hx => by
          obtain ⟨y, hy, rfl⟩ := List.mem_map.1 hx
          exact HS.out y (List.mem_of_mem_take hy))
        have h2 : ((C.take j).map cgC).length ≤ 40 := by rw [List.length_map, List.length_take]; omega
        omega
      have hT : chsB ((C.take (j + 1)).map cgC) = chsB ((C.take j).map cgC) ++ chB (cgC C[j]) := by
        rw [← List.take_append_getElem hkC, List.map_append]; exact chsB_snoc _ _
      obtain ⟨⟨⟨xa, xc, xl⟩, xn, xo, xg⟩, hx⟩ : ∃ x, C[j] = x := ⟨_, rfl⟩
      rw [hx] at c0 c1 c2 c3 hrl hE hS hT
      simp only [lsV, cgC] at c0 c1 c2 c3 hrl hE hS hT
      obtain ⟨xm, hxm⟩ : ∃ i, xl.length = i := ⟨_, rfl⟩
      rw [hxm] at c0
      have HA := Lib.hid (below_alloc (Below.refl wr.heap.size wr) (.cells #[.slice xa xm xc, .int .i64 xn, .bool xo, .bool xg] 71))
      have HXc := Lib.hid (newB wr (.cells #[.slice xa xm xc, .int .i64 xn, .bool xo, .bool xg] 71))
      obtain ⟨K, hK⟩ : ∃ K, ByteArray.mk (labB xl).toArray = K := ⟨_, rfl⟩
      have hKs : K.size ≤ 18540 := by rw [← hK, lb_size]; exact smallL_len hS.1
      have CK := Lib.hid (lkey_any (c := xc) hxm (RdLb.below hrl HA.out) (chgE_lab hE) hS.1)
      rw [hK] at CK
      obtain ⟨D, hD⟩ : ∃ D, l2 ++ chsB ((C.take j).map cgC) = D := ⟨_, rfl⟩
      have hDl : D.length ≤ 500744018 := by rw [← hD, List.length_append]; have := HL2.out.2; omega
      have hT2 : l2 ++ chsB ((C.take (j + 1)).map cgC) = D ++ (txtB K ++ ([if xg then 1 else 0] ++ (if xg then [] else valB xn xo))) := by
        rw [hT, ← List.append_assoc, hD, ← hK]; rfl
      rw [hD] at hbn hrd
      have CT := Lib.hid (fun W (hb : Below wr.heap.size wr W) => text_n (c := bc) (s := K) hbn (hrd.below hb) (by omega) (by omega))
      have hkl : (txtB K).length ≤ 18549 := by have := txtB_len (s := K) (by omega); omega
      have HT2 := Lib.hid hT2
      have HD := Lib.hid (And.intro hDl hkl)
      have HK64 := Lib.hid hS.2
      have hw : IntKind.i64.wrap ((j : Int) + 1) = ((j + 1 : Nat) : Int) := by rw [IntKind.wrap_i64]; omega
      have hkI : (j : Int) < (cn : Int) := by omega
      obtain ⟨T, hTe⟩ : ∃ T, txtB K = T := ⟨_, rfl⟩
      rw [hTe] at CT HT2 HD
      clear hkC hin hrl hE hS hlb hT hx hxm hK hKs hD hDl hT2 hbn hrd hkl hTe HO
      go_wp2_with fail
      clear c0 c1 c2 c3
      have d0 := cellAt (o := 0) HXc.out rfl
      refine CK.out.mono ?_
      rintro e w5 ⟨rfl, hb5⟩
      have HB5 := Lib.hid (HA.out.trans (hb5.mono HA.out.size))
      have HX5 := Lib.hid (keepB HXc.out hb5)
      clear hb5 d0 CK HXc HA
      go_wp2_with fail
      refine (CT.out _ HB5.out).mono ?_
      rintro e w6 ⟨v, rfl, ho6, hb6⟩
      obtain ⟨A6, c6, n6, rfl, hn6, hrd6⟩ := ho6.len_
      have HB6 := Lib.hid (HB5.out.trans (hb6.mono HB5.out.size))
      have HX6 := Lib.hid (keepB HX5.out hb6)
      have hn6b : n6 ≤ 500762567 := by rw [← hn6, List.length_append]; have := HD.out; omega
      have CR := Lib.hid (truth_n (c := c6) (b := xg) hn6 hrd6 (by omega))
      have HN6 := Lib.hid hn6
      clear ho6 hb6 hn6 hrd6 CT HX5 HB5
      have d3 := cellAt (o := 3) HX6.out rfl
      go_wp2_with fail
      refine CR.out.mono ?_
      rintro e w7 ⟨v, rfl, ho7, hb7⟩
      obtain ⟨A7, c7, n7, rfl, hn7, hrd7⟩ := ho7.len_
      have HB7 := Lib.hid (HB6.out.trans (hb7.mono HB6.out.size))
      have HX7 := Lib.hid (keepB HX6.out hb7)
      have hn7b : n7 ≤ 500762568 := by rw [← hn7, List.length_append, HN6.out]; simp; omega
      have CV := Lib.hid (nbytes_any (c := c7) (ov := xo) hn7 hrd7 (by omega) HK64.out)
      have HO7 := Lib.hid (ho7.lower HB6.out.size)
      clear ho7 hb7 hn7 hrd7 CR HX6 d3
      have d1 := cellAt (o := 1) HX7.out rfl
      have d2 := cellAt (o := 2) HX7.out rfl
      have d3 := cellAt (o := 3) HX7.out rfl
      have HBB := Lib.hid (HBr.out.trans (HB7.out.mono HBr.out.size))
      cases xg
      · go_wp2_with fail
        refine CV.out.mono ?_
        rintro e w8 ⟨v, rfl, ho8, hb8⟩
        have HB8 := Lib.hid (HBB.out.trans (hb8.mono HBB.out.size))
        have HO8 : Hid (OwnB w8 w.heap.size v (l2 ++ chsB ((C.take (j + 1)).map cgC))) := Lib.hid (by
          have := ho8.lower HBB.out.size
          rw [HT2.out]
          simp only [List.append_assoc] at this
          exact this)
        obtain ⟨A8, c8, n8, rfl, _, _⟩ := ho8.len_
        clear ho8 hb8
        go_wp2_with fail
        go_roundw
        case rel => exact ⟨j + 1, by go_num, by omega, HO8, HB8⟩
        case measure => simp [intOf]; omega
      · have HO8 : Hid (OwnB w7 w.heap.size (.slice A7 n7 c7) (l2 ++ chsB ((C.take (j + 1)).map cgC))) := Lib.hid (by
          have := HO7.out.lower HBr.out.size
          rw [HT2.out]
          simp only [List.append_assoc] at this
          exact this)
        go_wp2_with fail
        go_roundw
        case rel => exact ⟨j + 1, by go_num, by omega, HO8, HBB⟩
        case measure => simp [intOf]; omega
    · have hkI : ¬ (j : Int) < (cn : Int) := by omega
      have hf : C.take j = C := List.take_of_length_le (by rw [HG.out.1]; omega)
      rw [hf, ← HR.out] at HO
      clear hf hbn hrd
      go_wp2_with fail
      go_ret
      exact ⟨_, rfl, HO.out, HBr.out⟩
end Go.Proofs.Ytjnkcgegmffncaa
