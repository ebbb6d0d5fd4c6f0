/- WireCalls: for every input the law returns true, and its arguments read as they did. No condition. -/
import Derived.Test.YtboldddmknpchaaWLives
import Derived.Test.YtboldddmknpchaaWFrame
import Derived.Test.YtboldddmknpchaaLaw
import Derived.Test.YtboldddmknpchaaRegT
import Derived.Test.YtboldddmknpchaaWPerm
namespace Go.Proofs.Ytboldddmknpchaa
open Go.ChangeShapes Go.WideShapes Go.ChangeAt Go.RowKit Go.Joins
/-- Readings that stay. -/
def Kept (W : World) (ks : List (Option Addr × List UInt8)) : Prop := ∀ p ∈ ks, Rd W p.1 p.2
theorem Kept.below {W W' : World} {ks : List (Option Addr × List UInt8)} (h : Kept W ks) (hb : Below W.heap.size W W') : Kept W' ks := fun p hp => (h p hp).below hb
theorem Kept.cons {W : World} {ks : List (Option Addr × List UInt8)} {A : Option Addr} {l : List UInt8} (h : Kept W ks) (hr : Rd W A l) : Kept W ((A, l) :: ks) := fun p hp => by
  rcases List.mem_cons.1 hp with rfl | hp
  · exact hr
  · exact h p hp
theorem Kept.get {W : World} {ks : List (Option Addr × List UInt8)} (h : Kept W ks) (i : Nat) {A : Option Addr} {l : List UInt8} (hi : ks[i]? = some (A, l)) : Rd W A l := h (A, l) (List.mem_of_getElem? hi)
/-- Bytes of a value, read. -/
def RV (m : List UInt8) (v : Value) (W : World) : Prop := ∃ A c, v = .slice A m.length c ∧ Rd W A m
theorem RV.stab (m : List UInt8) (v : Value) : Stab (RV m v) := fun _ _ h hb => by
  obtain ⟨A, c, h1, h2⟩ := h; exact ⟨A, c, h1, h2.below hb⟩
theorem RV.conv {m : List UInt8} {v : Value} {W : World} (h : RV m v W) : (convert 22 9 v).run Try.prog W = .ok (.string ⟨m.toArray⟩) W := by
  obtain ⟨A, c, rfl, h2⟩ := h; exact conv_rd h2
/-- A row that its maker's successor may write. -/
def Tok (C : World → Prop) (l : List UInt8) (v : Value) (W : World) : Prop := ∃ N, N ≤ W.heap.size ∧ OwnB W N v l ∧ ∀ W', Below N W W' → C W'
theorem Tok.stab (C : World → Prop) (l : List UInt8) (v : Value) : Stab (Tok C l v) := fun _ _ h hb => by
  obtain ⟨N, h1, h2, h3⟩ := h
  exact ⟨N, Nat.le_trans h1 hb.size, h2.below hb, fun W2 h4 => h3 W2 ((hb.mono h1).trans h4)⟩
structure CB (w : World) (ks : List (Option Addr × List UInt8)) (W : World) : Prop where
  below : Below w.heap.size w W
  kept : Kept W ks
theorem CB.stab {w : World} {ks : List (Option Addr × List UInt8)} : Stab (CB w ks) := fun _ _ h hb => ⟨h.below.trans (hb.mono h.below.size), h.kept.below hb⟩
/-- A row of two slices, made anew. -/
def MK (A : Option Addr) (l : List UInt8) (c : Nat) (C : Option Addr) (m : List UInt8) (d : Nat) (v : Value) (W : World) : Prop :=
  ∃ H, v = .slice (some ⟨H, 0, none⟩) 2 2 ∧ W.heap[H]? = some (.cells #[.slice A l.length c, .slice C m.length d] 22 (0, 0))
theorem MK.stab {A : Option Addr} {l : List UInt8} {c : Nat} {C : Option Addr} {m : List UInt8} {d : Nat} (v : Value) : Stab (MK A l c C m d v) := fun _ _ h hb => by
  obtain ⟨H, h1, h2⟩ := h; exact ⟨H, h1, keepB h2 hb⟩
theorem MK.rd {A : Option Addr} {l : List UInt8} {c : Nat} {C : Option Addr} {m : List UInt8} {d : Nat} {v : Value} {W : World} (h : MK A l c C m d v W) (h1 : Rd W A l) (h2 : Rd W C m) : ∃ H, v = .slice (some ⟨H, 0, none⟩) 2 2 ∧ RdP W (some ⟨H, 0, none⟩) [(A, c, l), (C, d, m)] := by
  obtain ⟨H, hv, hb⟩ := h
  refine ⟨H, hv, ⟨by simp, fun _ => ⟨_, rfl, (Array.getElem?_eq_some_iff.1 hb).1, fun j u hu => World.news_of_block hb j u hu⟩⟩, fun p hp => ?_⟩
  simp only [List.mem_cons, List.not_mem_nil, or_false] at hp
  rcases hp with rfl | rfl
  · exact h1
  · exact h2
theorem own_tok {C : World → Prop} (SC : Stab C) (A : Option Addr) (c : Nat) (l : List UInt8) (hl : l.length ≤ 5000) (W : World) (hc : C W) (hr : Rd W A l) :
    Calls Try.prog 7 #[.slice A l.length c] W (fun e W' => ∃ v, e = .returned v ∧ stepR C (fun _ => Triv) (Tok C l) v W') :=
  (own_any A c l W hr (by omega)).mono fun e W' ⟨v, he, ho, hb⟩ => ⟨v, he, SC _ _ hc hb, triv _, W.heap.size, hb.size, ho, fun W2 h2 => SC _ _ hc (hb.trans h2)⟩
theorem tok_fresh {C : World → Prop} {f : FuncId} {args : Array Value} {l m : List UInt8} {v : Value} {W : World} (hT : Tok C l v W) (h : ∀ A c, v = .slice A l.length c → Rd W A l → Calls Try.prog f args W (FreshB W m)) :
    Calls Try.prog f args W (fun e W' => ∃ u, e = .returned u ∧ stepR (fun W => C W ∧ Triv W) (RV m) (fun _ => Triv) u W') := by
  obtain ⟨N, h1, h2, h3⟩ := hT
  obtain ⟨A, c, hv, _, _, hr⟩ := h2.form
  refine (h A c hv hr).mono fun e W' hf => ?_
  obtain ⟨A', c', he, _, _, hR, _, hB⟩ := hf.read
  exact ⟨_, he, ⟨h3 W' (hB.mono h1), triv _⟩, ⟨A', c', rfl, hR⟩, triv _⟩
theorem tok_made {C : World → Prop} {f : FuncId} {args : Array Value} {l m : List UInt8} {v : Value} {W : World} (hT : Tok C l v W) (h : ∀ N, N ≤ W.heap.size → OwnB W N v l → Calls Try.prog f args W (MadeB N W m)) :
    Calls Try.prog f args W (fun e W' => ∃ u, e = .returned u ∧ stepR (fun W => C W ∧ Triv W) (RV m) (fun _ => Triv) u W') := by
  obtain ⟨N, h1, h2, h3⟩ := hT
  refine (h N h1 h2).mono fun e W' ⟨u, he, ho, hB⟩ => ?_
  obtain ⟨A', c', hv, _, _, hR⟩ := ho.form
  exact ⟨u, he, ⟨h3 W' hB, triv _⟩, ⟨A', c', hv, hR⟩, triv _⟩
structure CC (w : World) (ks : List (Option Addr × List UInt8)) (C : World → Prop) : Prop where
  stab : Stab C
  base : ∀ W, C W → CB w ks W
theorem CC.add {w : World} {ks : List (Option Addr × List UInt8)} {C F : World → Prop} (h : CC w ks C) (hF : Stab F) : CC w ks (fun W => C W ∧ F W) := ⟨h.stab.and hF, fun W hw => h.base W hw.1⟩
theorem wt_own {Φ : Phi} {P : Program} {ts : List Value} {df : List Deferred} {E : (World → Prop) → (World → Prop) → Act → Prop} {r : List (Nat × Bool)} {C D : World → Prop} {i : Nat} {o : Oper} {lo : List Oper} (l : List UInt8) (hφ : Φ i = none) (ho : nthO lo i = some o) (hw : wantB lo ts o.guard = true)
    (hl : ∀ w, C w → D w → stepRes P (stepR C (fun _ => Triv) (Tok C l)) ((execOp (Act.eval { tmps := ts.toArray, defers := df }) o).run P w))
    (h : ∀ K : (World → Prop) → (World → Prop) → Act → Prop, Shut (∀ C D a, WpT Φ P lo E r C D a → K C D a) → ∀ v, K (fun w => C w ∧ Triv w) (Tok C l v) (Act.put { tmps := ts.toArray, defers := df } o.dst v)) :
    WpT Φ P lo E ((i, true) :: r) C D { tmps := ts.toArray, defers := df } :=
  wt_step hφ (fun _ => Triv) (Tok C l) (fun _ _ _ _ _ => triv _) (fun v => Tok.stab C l v) ho hw hl h
set_option maxRecDepth 1000000 in
set_option maxHeartbeats 4000000 in
theorem wcalls_core (A C : Option Addr) (c d : Nat) (l m : List UInt8) (x : Nat) (n : Int) (s : ByteArray) (w : World) (hp : Rd w A l) (hq : Rd w C m) (hl : l.length ≤ 5000) (hm : m.length ≤ 5000) (hs : s.size ≤ 5000)
    (hx : N64 x) (hn : In64 n) (hcl : l.length ≤ c) (hclm : c ≤ maxLen) :
    Calls Try.prog 3 #[.slice A l.length c, .slice C m.length d, .int .u64 x, .int .i64 n, .string s] w fun e w' => e = .returned (.bool true) ∧ Below w.heap.size w w' := by
  have K : Hid (Kept w [(A, l), (C, m)]) := Lib.hid (fun p hp' => by
    simp only [List.mem_cons, List.not_mem_nil, or_false] at hp'
    rcases hp' with rfl | rfl
    · exact hp
    · exact hq)
  have HX := Lib.hid hx
  have HN := Lib.hid hn
  have HCM := Lib.hid (And.intro hcl hclm)
  have HB := Lib.hid (Below.refl w.heap.size w)
  have e1 : ¬ ((5000 : Int) < (l.length : Int)) := by omega
  have e2 : ¬ ((5000 : Int) < (m.length : Int)) := by omega
  have e3 : ¬ ((5000 : Int) < (s.size : Int)) := by omega
  clear hp hq hx hn hcl hclm
  go_enter Try.func3, Try.ntmps3
  go_wp2_with fail
  refine (wlives_any _).mono ?_; rintro e w1 ⟨rfl, hb⟩; replace HB := Lib.hid (HB.out.trans (hb.mono HB.out.size)); replace K := Lib.hid (K.out.below hb); clear hb
  go_wp2_with fail; refine (own_any A c l _ (K.out.get 0 rfl) (by omega)).mono ?_; intro e wo hf; obtain ⟨Ao, co, rfl, hlc, hcm, hR, hO, hBo⟩ := hf.read; have HLC := Lib.hid (And.intro hlc hcm); have HR := Lib.hid hR; have HO := Lib.hid hO; have HBo := Lib.hid hBo; clear hf hlc hcm hR hO hBo
  go_wp2_with fail
  refine (text_any Ao co l s _ HR.out (by omega) (by omega)).mono ?_; intro e w2 hf
  obtain ⟨A1, c1, m1, rfl, HM1, HRf, _, HBf⟩ := hf.named; clear hf
  have HBt := Lib.hid (HBo.out.trans (HBf.out.mono HBo.out.size)); replace K := Lib.hid ((K.out.below HBt.out).cons HRf.out); replace HB := Lib.hid (HB.out.trans (HBt.out.mono HB.out.size)); clear HBt HBf HRf HBo HR HO HLC
  go_wp2_with fail; refine (own_any A c l _ (K.out.get 1 rfl) (by omega)).mono ?_; intro e wo hf; obtain ⟨Ao, co, rfl, hlc, hcm, hR, hO, hBo⟩ := hf.read; have HLC := Lib.hid (And.intro hlc hcm); have HR := Lib.hid hR; have HO := Lib.hid hO; have HBo := Lib.hid hBo; clear hf hlc hcm hR hO hBo
  go_wp2_with fail
  refine (rtext_any _ _ l s _ HO.out HBo.out.size (by omega) (by omega)).mono ?_; intro e w3 hf
  obtain ⟨A2, c2, m2, rfl, HM2, HRf, _, HBf⟩ := hf.named; clear hf
  have HBt := Lib.hid (HBo.out.trans HBf.out); replace K := Lib.hid ((K.out.below HBt.out).cons HRf.out); replace HB := Lib.hid (HB.out.trans (HBt.out.mono HB.out.size)); clear HBt HBf HRf HBo HR HO HLC
  go_wp2_with fail; refine (own_any A c l _ (K.out.get 2 rfl) (by omega)).mono ?_; intro e wo hf; obtain ⟨Ao, co, rfl, hlc, hcm, hR, hO, hBo⟩ := hf.read; have HLC := Lib.hid (And.intro hlc hcm); have HR := Lib.hid hR; have HO := Lib.hid hO; have HBo := Lib.hid hBo; clear hf hlc hcm hR hO hBo
  go_wp2_with fail
  refine (frame_any Ao co l _ HR.out (by omega)).mono ?_; intro e w4 hf
  obtain ⟨A3, c3, m3, rfl, HM3, HRf, _, HBf⟩ := hf.named; clear hf
  have HBt := Lib.hid (HBo.out.trans (HBf.out.mono HBo.out.size)); replace K := Lib.hid ((K.out.below HBt.out).cons HRf.out); replace HB := Lib.hid (HB.out.trans (HBt.out.mono HB.out.size)); clear HBt HBf HRf HBo HR HO HLC
  go_wp2_with fail
  refine (rframe_any A c l _ (K.out.get 3 rfl) (by omega)).mono ?_; intro e w5 hf
  obtain ⟨A4, c4, m4, rfl, HM4, HRf, _, HBf⟩ := hf.named; clear hf
  replace K := Lib.hid ((K.out.below HBf.out).cons HRf.out); replace HB := Lib.hid (HB.out.trans (HBf.out.mono HB.out.size)); clear HBf HRf
  go_wp2_with fail; refine (own_any A c l _ (K.out.get 4 rfl) (by omega)).mono ?_; intro e wo hf; obtain ⟨Ao, co, rfl, hlc, hcm, hR, hO, hBo⟩ := hf.read; have HLC := Lib.hid (And.intro hlc hcm); have HR := Lib.hid hR; have HO := Lib.hid hO; have HBo := Lib.hid hBo; clear hf hlc hcm hR hO hBo
  go_wp2_with fail
  refine (unframe_any Ao co l _ HR.out (by omega) HLC.out.1 HLC.out.2).mono ?_; intro e w6 hf
  obtain ⟨A5, c5, m5, rfl, HM5, HRf, _, HBf⟩ := hf.named; clear hf
  have HBt := Lib.hid (HBo.out.trans (HBf.out.mono HBo.out.size)); replace K := Lib.hid ((K.out.below HBt.out).cons HRf.out); replace HB := Lib.hid (HB.out.trans (HBt.out.mono HB.out.size)); clear HBt HBf HRf HBo HR HO HLC
  go_wp2_with fail
  refine (runframe_any A c l _ (K.out.get 5 rfl) (by omega) HCM.out.1 HCM.out.2).mono ?_; intro e w7 hf
  obtain ⟨A6, c6, m6, rfl, HM6, HRf, _, HBf⟩ := hf.named; clear hf
  replace K := Lib.hid ((K.out.below HBf.out).cons HRf.out); replace HB := Lib.hid (HB.out.trans (HBf.out.mono HB.out.size)); clear HBf HRf
  obtain ⟨b9, hb9⟩ : ∃ b, decide ((9 : Int) < (x : Int)) = b := ⟨_, rfl⟩
  obtain ⟨m7, hm7⟩ : ∃ m, l ++ numB x = m := ⟨_, rfl⟩
  obtain ⟨m9, hm9⟩ : ∃ m, l ++ numB (zz n) = m := ⟨_, rfl⟩
  obtain ⟨m11, hm11⟩ : ∃ m, l ++ [if b9 then (1 : UInt8) else 0] = m := ⟨_, rfl⟩
  have HM7 := Lib.hid hm7
  have HM9 := Lib.hid hm9
  have HM11 := Lib.hid hm11
  clear hm7 hm9 hm11
  have q8 : (m1 == m2) = true := by rw [HM1.out, HM2.out]; simp
  have q9 : (m3 == m4) = true := by rw [HM3.out, HM4.out]; simp
  have q10 : (m5 == m6) = true := by rw [HM5.out, HM6.out]; simp
  obtain ⟨sm, hsm⟩ : ∃ s, crc (allB [(A, c, l), (C, d, m)]) = s := ⟨_, rfl⟩
  have HSM := Lib.hid hsm
  clear hsm
  go_wp2_with fail
  have SC : CC w7 [(A6, m6), (A5, m5), (A4, m4), (A3, m3), (A2, m2), (A1, m1), (A, l), (C, m)] (CB w7 [(A6, m6), (A5, m5), (A4, m4), (A3, m3), (A2, m2), (A1, m1), (A, l), (C, m)]) := ⟨CB.stab, fun _ h => h⟩
  have HSum : Hid (∀ W (H : Nat), RdP W (some ⟨H, 0, none⟩) [(A, c, l), (C, d, m)] → Calls Try.prog 19 #[.slice (some ⟨H, 0, none⟩) 2 2] W fun e w' => e = .returned (.int .u32 (sm : Nat)) ∧ Below W.heap.size W w') := Lib.hid (fun W H h => by
    have := sum_any (some ⟨H, 0, none⟩) 2 [(A, c, l), (C, d, m)] W h (by simp) (by simp; omega)
    rwa [HSM.out] at this)
  have HRSum : Hid (∀ W (H : Nat), RdP W (some ⟨H, 0, none⟩) [(A, c, l), (C, d, m)] → Calls Try.prog 20 #[.slice (some ⟨H, 0, none⟩) 2 2] W fun e w' => e = .returned (.int .u32 (sm : Nat)) ∧ Below W.heap.size W w') := Lib.hid (fun W H h => by
    have := rsum_any (some ⟨H, 0, none⟩) 2 [(A, c, l), (C, d, m)] W h (by simp) (by simp; omega)
    rwa [HSM.out] at this)
  refine wp_region_two' ops11 (by kernel_rfl) 91 [(0, false), (2, false), (5, false), (7, false), (1, true), (3, true), (4, false), (6, true), (8, true), (9, false), (10, false), (11, false), (12, false), (14, false), (17, false), (19, false), (13, true), (15, true), (16, false), (18, true), (20, true), (21, false), (22, false), (23, false), (24, false), (25, false), (27, false), (28, false), (31, false), (33, false), (34, false), (26, true), (29, true), (30, false), (32, true), (35, true), (36, false), (37, false), (38, false), (39, false), (40, false), (41, false), (42, false), (43, false), (44, false), (45, false), (46, false), (47, false), (48, false), (49, false), (50, false), (51, false), (52, false), (53, false), (54, false), (55, false), (56, false), (57, false), (58, false), (59, false), (60, false), (61, false), (62, false), (63, false), (64, false), (65, false), (66, false), (67, false), (68, false), (69, false), (70, false), (71, false), (72, false), (73, false), (74, false), (75, false), (76, false), (77, false), (78, false), (79, false), (80, false), (81, false), (82, false), (85, false), (86, false), (83, true), (84, false), (87, true), (88, false), (89, false), (90, false)] [(83, MK A l c C m d), (87, MK A l c C m d)] [83, 87] rfl (CB w7 [(A6, m6), (A5, m5), (A4, m4), (A3, m3), (A2, m2), (A1, m1), (A, l), (C, m)]) Triv (by kernel_rfl) pc_all SC.stab (fun _ _ _ _ => triv _) ⟨(Below.refl _ _).drew, K.out.below (Below.refl _ _).drew⟩ (triv _) ?_
  repeat (first | (refine wt_q rfl rfl ?_; apply Exists.intro; refine ⟨fun w' hw' => ?_, fun K hK => ?_⟩; (focus ((skip); go_simp; first | exact quiet_value | fail)); simp only [Act.put, List.setIfInBounds_toArray, List.set_cons_zero, List.set_cons_succ]; refine hK.out _ ?_; clear hK K) | (refine wt_skip rfl rfl (fun K hK => ?_); simp only [Act.put, List.setIfInBounds_toArray, List.set_cons_zero, List.set_cons_succ]; refine hK.out _ ?_; clear hK K))
  refine wt_own l rfl rfl rfl (fun w' hc hd => ?_) (fun K hK v => ?_); (focus (have HC := Lib.hid hc; clear hc hd; go_simp; refine st_enter ?_; exact own_tok SC.stab A c l hl _ HC.out ((SC.base _ HC.out).kept.get 6 rfl))); simp only [Act.put, List.setIfInBounds_toArray, List.set_cons_zero, List.set_cons_succ]; refine hK.out _ _ _ ?_; clear hK K; replace SC := SC.add (F := Triv) (fun _ _ _ _ => triv _)
  repeat (first | (refine wt_q rfl rfl ?_; apply Exists.intro; refine ⟨fun w' hw' => ?_, fun K hK => ?_⟩; (focus ((skip); go_simp; first | exact quiet_value | fail)); simp only [Act.put, List.setIfInBounds_toArray, List.set_cons_zero, List.set_cons_succ]; refine hK.out _ ?_; clear hK K) | (refine wt_skip rfl rfl (fun K hK => ?_); simp only [Act.put, List.setIfInBounds_toArray, List.set_cons_zero, List.set_cons_succ]; refine hK.out _ ?_; clear hK K))
  refine wt_step rfl (RV m7) (fun _ => Triv) (RV.stab m7) (fun _ _ _ _ _ => triv _) rfl rfl (fun w' hc hd => ?_) (fun K hK v => ?_); (focus (have HD := Lib.hid hd; clear hc hd; go_simp; refine st_enter ?_; exact tok_fresh HD.out (fun A' c' hv hr => by rw [hv, ← HM7.out]; exact number_any A' c' l x HX.out _ hr (by omega)))); simp only [Act.put, List.setIfInBounds_toArray, List.set_cons_zero, List.set_cons_succ]; refine hK.out _ _ _ ?_; clear hK K; replace SC := SC.add (RV.stab m7 v)
  repeat (first | (refine wt_q rfl rfl ?_; apply Exists.intro; refine ⟨fun w' hw' => ?_, fun K hK => ?_⟩; (focus ((have qv := RV.conv hw'.2); go_simp; first | exact quiet_value | fail)); simp only [Act.put, List.setIfInBounds_toArray, List.set_cons_zero, List.set_cons_succ]; refine hK.out _ ?_; clear hK K) | (refine wt_skip rfl rfl (fun K hK => ?_); simp only [Act.put, List.setIfInBounds_toArray, List.set_cons_zero, List.set_cons_succ]; refine hK.out _ ?_; clear hK K))
  refine wt_own l rfl rfl rfl (fun w' hc hd => ?_) (fun K hK v => ?_); (focus (have HC := Lib.hid hc; clear hc hd; go_simp; refine st_enter ?_; exact own_tok SC.stab A c l hl _ HC.out ((SC.base _ HC.out).kept.get 6 rfl))); simp only [Act.put, List.setIfInBounds_toArray, List.set_cons_zero, List.set_cons_succ]; refine hK.out _ _ _ ?_; clear hK K; replace SC := SC.add (F := Triv) (fun _ _ _ _ => triv _)
  repeat (first | (refine wt_q rfl rfl ?_; apply Exists.intro; refine ⟨fun w' hw' => ?_, fun K hK => ?_⟩; (focus ((skip); go_simp; first | exact quiet_value | fail)); simp only [Act.put, List.setIfInBounds_toArray, List.set_cons_zero, List.set_cons_succ]; refine hK.out _ ?_; clear hK K) | (refine wt_skip rfl rfl (fun K hK => ?_); simp only [Act.put, List.setIfInBounds_toArray, List.set_cons_zero, List.set_cons_succ]; refine hK.out _ ?_; clear hK K))
  refine wt_step rfl (RV m7) (fun _ => Triv) (RV.stab m7) (fun _ _ _ _ _ => triv _) rfl rfl (fun w' hc hd => ?_) (fun K hK v => ?_); (focus (have HD := Lib.hid hd; clear hc hd; go_simp; refine st_enter ?_; exact tok_made HD.out (fun N hN ho => by rw [← HM7.out]; exact rnumber_any N _ l x HX.out _ ho hN (by omega)))); simp only [Act.put, List.setIfInBounds_toArray, List.set_cons_zero, List.set_cons_succ]; refine hK.out _ _ _ ?_; clear hK K; replace SC := SC.add (RV.stab m7 v)
  repeat (first | (refine wt_q rfl rfl ?_; apply Exists.intro; refine ⟨fun w' hw' => ?_, fun K hK => ?_⟩; (focus ((have qv := RV.conv hw'.2); go_simp; first | exact quiet_value | fail)); simp only [Act.put, List.setIfInBounds_toArray, List.set_cons_zero, List.set_cons_succ]; refine hK.out _ ?_; clear hK K) | (refine wt_skip rfl rfl (fun K hK => ?_); simp only [Act.put, List.setIfInBounds_toArray, List.set_cons_zero, List.set_cons_succ]; refine hK.out _ ?_; clear hK K))
  refine wt_own l rfl rfl rfl (fun w' hc hd => ?_) (fun K hK v => ?_); (focus (have HC := Lib.hid hc; clear hc hd; go_simp; refine st_enter ?_; exact own_tok SC.stab A c l hl _ HC.out ((SC.base _ HC.out).kept.get 6 rfl))); simp only [Act.put, List.setIfInBounds_toArray, List.set_cons_zero, List.set_cons_succ]; refine hK.out _ _ _ ?_; clear hK K; replace SC := SC.add (F := Triv) (fun _ _ _ _ => triv _)
  repeat (first | (refine wt_q rfl rfl ?_; apply Exists.intro; refine ⟨fun w' hw' => ?_, fun K hK => ?_⟩; (focus ((skip); go_simp; first | exact quiet_value | fail)); simp only [Act.put, List.setIfInBounds_toArray, List.set_cons_zero, List.set_cons_succ]; refine hK.out _ ?_; clear hK K) | (refine wt_skip rfl rfl (fun K hK => ?_); simp only [Act.put, List.setIfInBounds_toArray, List.set_cons_zero, List.set_cons_succ]; refine hK.out _ ?_; clear hK K))
  refine wt_step rfl (RV m9) (fun _ => Triv) (RV.stab m9) (fun _ _ _ _ _ => triv _) rfl rfl (fun w' hc hd => ?_) (fun K hK v => ?_); (focus (have HD := Lib.hid hd; clear hc hd; go_simp; refine st_enter ?_; exact tok_fresh HD.out (fun A' c' hv hr => by rw [hv, ← HM9.out]; exact signed_any A' c' l n HN.out _ hr (by omega)))); simp only [Act.put, List.setIfInBounds_toArray, List.set_cons_zero, List.set_cons_succ]; refine hK.out _ _ _ ?_; clear hK K; replace SC := SC.add (RV.stab m9 v)
  repeat (first | (refine wt_q rfl rfl ?_; apply Exists.intro; refine ⟨fun w' hw' => ?_, fun K hK => ?_⟩; (focus ((have qv := RV.conv hw'.2); go_simp; first | exact quiet_value | fail)); simp only [Act.put, List.setIfInBounds_toArray, List.set_cons_zero, List.set_cons_succ]; refine hK.out _ ?_; clear hK K) | (refine wt_skip rfl rfl (fun K hK => ?_); simp only [Act.put, List.setIfInBounds_toArray, List.set_cons_zero, List.set_cons_succ]; refine hK.out _ ?_; clear hK K))
  refine wt_own l rfl rfl rfl (fun w' hc hd => ?_) (fun K hK v => ?_); (focus (have HC := Lib.hid hc; clear hc hd; go_simp; refine st_enter ?_; exact own_tok SC.stab A c l hl _ HC.out ((SC.base _ HC.out).kept.get 6 rfl))); simp only [Act.put, List.setIfInBounds_toArray, List.set_cons_zero, List.set_cons_succ]; refine hK.out _ _ _ ?_; clear hK K; replace SC := SC.add (F := Triv) (fun _ _ _ _ => triv _)
  repeat (first | (refine wt_q rfl rfl ?_; apply Exists.intro; refine ⟨fun w' hw' => ?_, fun K hK => ?_⟩; (focus ((skip); go_simp; first | exact quiet_value | fail)); simp only [Act.put, List.setIfInBounds_toArray, List.set_cons_zero, List.set_cons_succ]; refine hK.out _ ?_; clear hK K) | (refine wt_skip rfl rfl (fun K hK => ?_); simp only [Act.put, List.setIfInBounds_toArray, List.set_cons_zero, List.set_cons_succ]; refine hK.out _ ?_; clear hK K))
  refine wt_step rfl (RV m9) (fun _ => Triv) (RV.stab m9) (fun _ _ _ _ _ => triv _) rfl rfl (fun w' hc hd => ?_) (fun K hK v => ?_); (focus (have HD := Lib.hid hd; clear hc hd; go_simp; refine st_enter ?_; exact tok_made HD.out (fun N hN ho => by rw [← HM9.out]; exact rsigned_any N _ l n HN.out _ ho hN (by omega)))); simp only [Act.put, List.setIfInBounds_toArray, List.set_cons_zero, List.set_cons_succ]; refine hK.out _ _ _ ?_; clear hK K; replace SC := SC.add (RV.stab m9 v)
  repeat (first | (refine wt_q rfl rfl ?_; apply Exists.intro; refine ⟨fun w' hw' => ?_, fun K hK => ?_⟩; (focus ((have qv := RV.conv hw'.2); go_simp; first | exact quiet_value | fail)); simp only [Act.put, List.setIfInBounds_toArray, List.set_cons_zero, List.set_cons_succ]; refine hK.out _ ?_; clear hK K) | (refine wt_skip rfl rfl (fun K hK => ?_); simp only [Act.put, List.setIfInBounds_toArray, List.set_cons_zero, List.set_cons_succ]; refine hK.out _ ?_; clear hK K))
  refine wt_own l rfl rfl rfl (fun w' hc hd => ?_) (fun K hK v => ?_); (focus (have HC := Lib.hid hc; clear hc hd; go_simp; refine st_enter ?_; exact own_tok SC.stab A c l hl _ HC.out ((SC.base _ HC.out).kept.get 6 rfl))); simp only [Act.put, List.setIfInBounds_toArray, List.set_cons_zero, List.set_cons_succ]; refine hK.out _ _ _ ?_; clear hK K; replace SC := SC.add (F := Triv) (fun _ _ _ _ => triv _)
  repeat (first | (refine wt_q rfl rfl ?_; apply Exists.intro; refine ⟨fun w' hw' => ?_, fun K hK => ?_⟩; (focus ((skip); go_simp; first | exact quiet_value | fail)); simp only [Act.put, List.setIfInBounds_toArray, List.set_cons_zero, List.set_cons_succ]; refine hK.out _ ?_; clear hK K) | (refine wt_skip rfl rfl (fun K hK => ?_); simp only [Act.put, List.setIfInBounds_toArray, List.set_cons_zero, List.set_cons_succ]; refine hK.out _ ?_; clear hK K))
  refine wt_step rfl (RV m11) (fun _ => Triv) (RV.stab m11) (fun _ _ _ _ _ => triv _) rfl rfl (fun w' hc hd => ?_) (fun K hK v => ?_); (focus (have HD := Lib.hid hd; clear hc hd; go_simp; refine st_enter ?_; exact tok_fresh HD.out (fun A' c' hv hr => by rw [hv, ← HM11.out]; exact truth_any A' c' l b9 _ hr (by omega)))); simp only [Act.put, List.setIfInBounds_toArray, List.set_cons_zero, List.set_cons_succ]; refine hK.out _ _ _ ?_; clear hK K; replace SC := SC.add (RV.stab m11 v)
  repeat (first | (refine wt_q rfl rfl ?_; apply Exists.intro; refine ⟨fun w' hw' => ?_, fun K hK => ?_⟩; (focus ((have qv := RV.conv hw'.2); go_simp; first | exact quiet_value | fail)); simp only [Act.put, List.setIfInBounds_toArray, List.set_cons_zero, List.set_cons_succ]; refine hK.out _ ?_; clear hK K) | (refine wt_skip rfl rfl (fun K hK => ?_); simp only [Act.put, List.setIfInBounds_toArray, List.set_cons_zero, List.set_cons_succ]; refine hK.out _ ?_; clear hK K))
  refine wt_own l rfl rfl rfl (fun w' hc hd => ?_) (fun K hK v => ?_); (focus (have HC := Lib.hid hc; clear hc hd; go_simp; refine st_enter ?_; exact own_tok SC.stab A c l hl _ HC.out ((SC.base _ HC.out).kept.get 6 rfl))); simp only [Act.put, List.setIfInBounds_toArray, List.set_cons_zero, List.set_cons_succ]; refine hK.out _ _ _ ?_; clear hK K; replace SC := SC.add (F := Triv) (fun _ _ _ _ => triv _)
  repeat (first | (refine wt_q rfl rfl ?_; apply Exists.intro; refine ⟨fun w' hw' => ?_, fun K hK => ?_⟩; (focus ((skip); go_simp; first | exact quiet_value | fail)); simp only [Act.put, List.setIfInBounds_toArray, List.set_cons_zero, List.set_cons_succ]; refine hK.out _ ?_; clear hK K) | (refine wt_skip rfl rfl (fun K hK => ?_); simp only [Act.put, List.setIfInBounds_toArray, List.set_cons_zero, List.set_cons_succ]; refine hK.out _ ?_; clear hK K))
  refine wt_step rfl (RV m11) (fun _ => Triv) (RV.stab m11) (fun _ _ _ _ _ => triv _) rfl rfl (fun w' hc hd => ?_) (fun K hK v => ?_); (focus (have HD := Lib.hid hd; clear hc hd; go_simp; refine st_enter ?_; exact tok_made HD.out (fun N hN ho => by rw [← HM11.out]; exact rtruth_any N _ l b9 _ ho hN (by omega)))); simp only [Act.put, List.setIfInBounds_toArray, List.set_cons_zero, List.set_cons_succ]; refine hK.out _ _ _ ?_; clear hK K; replace SC := SC.add (RV.stab m11 v)
  repeat (first | (refine wt_q rfl rfl ?_; apply Exists.intro; refine ⟨fun w' hw' => ?_, fun K hK => ?_⟩; (focus ((have qv := RV.conv hw'.2; have h0 := (SC.base _ hw').kept; have v1 := conv_rd (c := c1) (h0.get 5 rfl); have v2 := conv_rd (c := c2) (h0.get 4 rfl); have v3 := conv_rd (c := c3) (h0.get 3 rfl); have v4 := conv_rd (c := c4) (h0.get 2 rfl); have v5 := conv_rd (c := c5) (h0.get 1 rfl); have v6 := conv_rd (c := c6) (h0.get 0 rfl); clear h0); go_simp; first | exact quiet_value | fail)); simp only [Act.put, List.setIfInBounds_toArray, List.set_cons_zero, List.set_cons_succ]; refine hK.out _ ?_; clear hK K) | (refine wt_skip rfl rfl (fun K hK => ?_); simp only [Act.put, List.setIfInBounds_toArray, List.set_cons_zero, List.set_cons_succ]; refine hK.out _ ?_; clear hK K))
  refine wt_make (MK A l c C m d) rfl MK.stab rfl rfl (fun w' => ?_) (fun K hK v => ?_); (focus (go_simp; exact ⟨(Below.refl _ _).alloc (Nat.le_refl _) _, _, rfl, newB _ _⟩)); simp only [Act.put, List.setIfInBounds_toArray, List.set_cons_zero, List.set_cons_succ]; refine hK.out _ _ ?_; clear hK K; replace SC := SC.add (MK.stab (A := A) (l := l) (c := c) (C := C) (m := m) (d := d) v)
  repeat (first | (refine wt_q rfl rfl ?_; apply Exists.intro; refine ⟨fun w' hw' => ?_, fun K hK => ?_⟩; (focus ((obtain ⟨H, hv, hR⟩ := MK.rd hw'.2 ((SC.base _ hw').kept.get 6 rfl) ((SC.base _ hw').kept.get 7 rfl)); go_simp; first | exact quiet_value | with_reducible exact quiet_enter (HSum.out _ _ hR))); simp only [Act.put, List.setIfInBounds_toArray, List.set_cons_zero, List.set_cons_succ]; refine hK.out _ ?_; clear hK K) | (refine wt_skip rfl rfl (fun K hK => ?_); simp only [Act.put, List.setIfInBounds_toArray, List.set_cons_zero, List.set_cons_succ]; refine hK.out _ ?_; clear hK K))
  refine wt_make (MK A l c C m d) rfl MK.stab rfl rfl (fun w' => ?_) (fun K hK v => ?_); (focus (go_simp; exact ⟨(Below.refl _ _).alloc (Nat.le_refl _) _, _, rfl, newB _ _⟩)); simp only [Act.put, List.setIfInBounds_toArray, List.set_cons_zero, List.set_cons_succ]; refine hK.out _ _ ?_; clear hK K; replace SC := SC.add (MK.stab (A := A) (l := l) (c := c) (C := C) (m := m) (d := d) v)
  repeat (first | (refine wt_q rfl rfl ?_; apply Exists.intro; refine ⟨fun w' hw' => ?_, fun K hK => ?_⟩; (focus ((obtain ⟨H, hv, hR⟩ := MK.rd hw'.2 ((SC.base _ hw').kept.get 6 rfl) ((SC.base _ hw').kept.get 7 rfl)); go_simp; first | exact quiet_value | with_reducible exact quiet_enter (HRSum.out _ _ hR))); simp only [Act.put, List.setIfInBounds_toArray, List.set_cons_zero, List.set_cons_succ]; refine hK.out _ ?_; clear hK K) | (refine wt_skip rfl rfl (fun K hK => ?_); simp only [Act.put, List.setIfInBounds_toArray, List.set_cons_zero, List.set_cons_succ]; refine hK.out _ ?_; clear hK K))
  refine wt_nil ?_
  intro w8 hC8 _
  have HF := Lib.hid (HB.out.trans ((SC.base _ hC8).below.mono HB.out.size))
  clear hC8
  try simp only [List.drop_succ_cons, List.drop_zero, List.drop_nil]
  go_wp2_with fail
  go_ret
  exact ⟨rfl, HF.out⟩
end Go.Proofs.Ytboldddmknpchaa
