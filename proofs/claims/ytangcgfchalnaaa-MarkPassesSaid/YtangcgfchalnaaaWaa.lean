/- Parts of the proof: MpL MpM RlN RlC. -/
import Derived.Test.YtangcgfchalnaaaZaa
import Derived.Test.YtangcgfchalnaaaYal
import Derived.Test.YtangcgfchalnaaaYam
/- mark: what Next tells is what was taken, in order of times. No world. -/
namespace Go.Proofs.Ytangcgfchalnaaa
open Go.RowKit Go.MapKept
abbrev ptsL (S : List SrP) : List (List Pt) := S.map (fun y : SrP => y.2)
theorem smp_val (m : ByteArray) (L : List Lb) (t : Int) : smpE m L t = 0 ∨ smpE m L t = 2 ∨ smpE m L t = 3 := by
  have h1 : serE m L = 0 ∨ serE m L = 2 ∨ serE m L = 3 := by
    unfold serE labE
    split <;> (try split) <;> (try split) <;> simp
  unfold smpE
  by_cases h0 : serE m L = 0
  · rw [if_pos h0]
    split <;> simp
  · rw [if_neg h0]
    exact h1
/-! ### A later sample -/
theorem range_late {f u : Int} {q : Pt} {P : List Pt} (h : u < q.1) : rangeP f u (insP q P) = rangeP f u P := by
  unfold rangeP insP
  rw [List.filter_append, List.filter_cons_of_neg (by simp; omega), List.filter_filter, List.filter_filter]
  have e2 : List.filter (fun a => (decide (f < a.1) && decide (a.1 ≤ u)) && decide (q.1 < a.1)) P = [] := by
    rw [List.filter_eq_nil_iff]
    intro a _
    simp
    omega
  rw [e2, List.append_nil]
  refine List.filter_congr (fun a _ => ?_)
  by_cases h1 : a.1 ≤ u
  · have : a.1 < q.1 := by omega
    simp [h1, this]
  · simp [h1]
theorem allE_late {f u : Int} {s : SeC} {q : Pt} (h : u < q.1) : ∀ (k : Nat) (S : List SrP), allE f u k (ptsL (putR s q S)) = allE f u k (ptsL S)
  | k, [] => by
    simp only [putR, ptsL, List.map_cons, List.map_nil, allE, List.append_nil]
    rw [← insP_nil q, range_late h]; rfl
  | k, y :: r => by
    have ih := allE_late (f := f) (s := s) h (k + 1) r
    simp only [ptsL] at ih
    simp only [putR, ptsL]
    split
    · simp only [List.map_cons, allE]
      rw [range_late h]
    · simp only [List.map_cons, allE, ih]
theorem btE_late {f u : Int} {s : SeC} {q : Pt} (h : u < q.1) (S : List SrP) : btE f u (ptsL (putR s q S)) = btE f u (ptsL S) := by
  unfold btE; rw [allE_late h]
theorem putR_fst (s : SeC) (q : Pt) : ∀ S : List SrP, ∃ T, (putR s q S).map (·.1) = S.map (·.1) ++ T
  | [] => ⟨[s], rfl⟩
  | y :: r => by
    obtain ⟨T, hT⟩ := putR_fst s q r
    simp only [putR]
    split
    · exact ⟨[], by simp⟩
    · exact ⟨T, by simp only [List.map_cons, hT, List.cons_append]⟩
theorem smE_put {s : SeC} {q : Pt} {S : List SrP} {e : Ev} (h0 : 1 ≤ e.2.1) (h1 : e.2.1 ≤ S.length) : smE (putR s q S) e = smE S e := by
  obtain ⟨T, hT⟩ := putR_fst s q S
  unfold smE
  rw [hT, List.getD_eq_getElem?_getD, List.getD_eq_getElem?_getD, List.getElem?_append_left (by rw [List.length_map]; omega)]
theorem told_late {f u : Int} {s : SeC} {q : Pt} (h : u < q.1) (S : List SrP) : (btE f u (ptsL (putR s q S))).map (smE (putR s q S)) = (btE f u (ptsL S)).map (smE S) := by
  rw [btE_late h]
  refine List.map_congr_left (fun e he => ?_)
  have h1 := btE_id he
  rw [List.length_map] at h1
  exact smE_put h1.1 h1.2
/-! ### Ranges that touch -/
theorem range_cut2 {f p u : Int} (h1 : f ≤ p) (h2 : p ≤ u) : ∀ P : List Pt, (rangeP f u P).Perm (rangeP f p P ++ rangeP p u P)
  | [] => List.Perm.refl _
  | a :: P => by
    have ih := range_cut2 h1 h2 P
    unfold rangeP at ih ⊢
    by_cases c1 : f < a.1 ∧ a.1 ≤ u
    · rw [List.filter_cons_of_pos (by simpa using c1)]
      by_cases c2 : a.1 ≤ p
      · rw [List.filter_cons_of_pos (by simp; omega), List.filter_cons_of_neg (by simp; omega), List.cons_append]
        exact List.Perm.cons a ih
      · rw [List.filter_cons_of_neg (by simp; omega), List.filter_cons_of_pos (by simp; omega)]
        exact (List.Perm.cons a ih).trans List.perm_middle.symm
    · rw [List.filter_cons_of_neg (by simpa using c1), List.filter_cons_of_neg (by simp; omega), List.filter_cons_of_neg (by simp; omega)]
      exact ih
theorem allE_cut {f p u : Int} (h1 : f ≤ p) (h2 : p ≤ u) : ∀ (k : Nat) (Q : List (List Pt)), (allE f u k Q).Perm (allE f p k Q ++ allE p u k Q)
  | k, [] => List.Perm.refl _
  | k, P :: Q => by
    have ih := allE_cut h1 h2 (k + 1) Q
    have hP : (evs (k + 1) (rangeP f u P)).Perm (evs (k + 1) (rangeP f p P) ++ evs (k + 1) (rangeP p u P)) := by
      unfold evs
      rw [← List.map_append]
      exact (range_cut2 h1 h2 P).map _
    simp only [allE]
    refine (List.Perm.append hP ih).trans ?_
    rw [List.append_assoc, List.append_assoc]
    refine List.Perm.append_left _ ?_
    rw [← List.append_assoc, ← List.append_assoc]
    exact List.Perm.append_right _ List.perm_append_comm
theorem btE_tm {f u : Int} {Q : List (List Pt)} {e : Ev} (h : e ∈ btE f u Q) : f < e.1 ∧ e.1 ≤ u := allE_tm ((btE_perm f u Q).mem_iff.1 h)
theorem btE_cut {f p u : Int} (h1 : f ≤ p) (h2 : p ≤ u) {Q : List (List Pt)} (hQ : ∀ P ∈ Q, Rise P) : btE f u Q = btE f p Q ++ btE p u Q := by
  refine srt_uniq _ _ (btE_srt hQ) ?_ ?_
  · show List.Pairwise _ _
    rw [List.pairwise_append]
    refine ⟨btE_srt hQ, btE_srt hQ, fun a ha b hb => ?_⟩
    have g1 := btE_tm ha
    have g2 := btE_tm hb
    rw [ltE_iff]
    omega
  · exact ((btE_perm f u Q).trans (allE_cut h1 h2 0 Q)).trans (List.Perm.append (btE_perm f p Q).symm (btE_perm p u Q).symm)
theorem btE_none {f : Int} {Q : List (List Pt)} : btE f f Q = [] := by
  refine List.eq_nil_iff_forall_not_mem.2 (fun e he => ?_)
  have := btE_tm he
  omega
/-- What Next tells is all up to where it stops. -/
theorem nx_told {pa mk : Int} {Q : List (List Pt)} {M : List Ev} {mn : Nat} (hQ : ∀ P ∈ Q, Rise P) (hpm : pa ≤ mk) (hM : btE pa mk Q = M) : nxL M mn = btE pa (nxT M mn pa mk) Q ∧ pa ≤ nxT M mn pa mk ∧ nxT M mn pa mk ≤ mk ∧ (nxL M mn).length ≤ mn := by
  unfold nxL nxT
  by_cases hl : M.length ≤ mn
  · rw [if_pos hl, if_pos hl]
    exact ⟨hM.symm, hpm, Int.le_refl _, hl⟩
  rw [if_neg hl, if_neg hl]
  have hml : mn < M.length := by omega
  have hK := nxK_le (M := M) (by rw [← hM]; exact btE_srt hQ) hml
  by_cases h0 : nxK M mn = 0
  · rw [if_pos h0, h0, btE_none]
    exact ⟨rfl, Int.le_refl _, hpm, by simp⟩
  rw [if_neg h0]
  have hA : nxA M mn = M[mn].1 := by unfold nxA; rw [List.getD_eq_getElem?_getD, List.getElem?_eq_getElem hml]; rfl
  have ht := btE_tm (f := pa) (u := mk) (Q := Q) (e := M[mn]) (by rw [hM]; exact List.getElem_mem _)
  rw [← hA] at ht
  have hc := btE_cut (f := pa) (p := nxA M mn - 1) (u := mk) (by omega) (by omega) hQ
  rw [hM] at hc
  have hk : nxK M mn = (btE pa (nxA M mn - 1) Q).length := by
    show M.countP (fun e => decide (e.1 < nxA M mn)) = _
    obtain ⟨a, ha⟩ : ∃ a, nxA M mn = a := ⟨_, rfl⟩
    rw [ha] at hc ⊢
    rw [hc, List.countP_append]
    have e1 : (btE pa (a - 1) Q).countP (fun e => decide (e.1 < a)) = (btE pa (a - 1) Q).length := by
      rw [List.countP_eq_length]
      intro e he
      have := btE_tm he
      simp; omega
    have e2 : (btE (a - 1) mk Q).countP (fun e => decide (e.1 < a)) = 0 := by
      rw [List.countP_eq_zero]
      intro e he
      have := btE_tm he
      simp; omega
    rw [e1, e2]; rfl
  refine ⟨?_, by omega, by omega, by rw [List.length_take]; omega⟩
  rw [hk]
  have h3 := congrArg (List.take (btE pa (nxA M mn - 1) Q).length) hc
  rw [List.take_left' rfl] at h3
  exact h3
end Go.Proofs.Ytangcgfchalnaaa

/- mark: what stays while samples are put, and passed; all samples put again. No world. -/
namespace Go.Proofs.Ytangcgfchalnaaa
open Go.RowKit Go.MapKept
structure PasI (la mo pa : Int) (S : List SrP) (k cnt : Nat) : Prop where
  few : Few S k
  nd : (keysS S).Nodup
  ser : ∀ y ∈ S, serE y.1.1 y.1.2 = 0 ∧ smallS y.1.1 y.1.2
  tot : totR 0 1099511627776 S = cnt
  la0 : 0 ≤ la
  mo0 : 0 ≤ mo
  pa0 : 0 ≤ pa
  pam : pa ≤ mkI la mo
theorem PasI.nil {la : Int} (h : 0 ≤ la) : PasI la 0 0 [] 0 0 := ⟨Few.nil, by simp [keysS], fun _ (h : _ ∈ []) => (List.not_mem_nil h).elim, rfl, h, Int.le_refl _, Int.le_refl _, by unfold mkI; omega⟩
theorem PasI.pass {la mo pa to : Int} {S : List SrP} {k cnt : Nat} (h : PasI la mo pa S k cnt) (h1 : pa ≤ to) (h2 : to ≤ mkI la mo) : PasI la mo to S k cnt :=
  ⟨h.few, h.nd, h.ser, h.tot, h.la0, h.mo0, by have := h.pa0; omega, h2⟩
theorem PasI.rise {la mo pa : Int} {S : List SrP} {k cnt : Nat} (h : PasI la mo pa S k cnt) : ∀ P ∈ ptsL S, Rise P := fun P hP => by
  obtain ⟨y, hy, rfl⟩ := List.mem_map.1 hP
  exact h.few.rise y hy
theorem putR_ser {s : SeC} {q : Pt} {R : SeC → Prop} : ∀ {S : List SrP}, (∀ y ∈ S, R y.1) → R s → ∀ y ∈ putR s q S, R y.1
  | [], _, hs => fun y hy => by
    simp only [putR, List.mem_singleton] at hy
    subst hy; exact hs
  | z :: r, h, hs => by
    simp only [putR]
    split
    · intro y hy
      rcases List.mem_cons.1 hy with rfl | hy
      · exact h z List.mem_cons_self
      · exact h y (List.mem_cons_of_mem _ hy)
    · intro y hy
      rcases List.mem_cons.1 hy with rfl | hy
      · exact h _ List.mem_cons_self
      · exact putR_ser (fun y hy => h y (List.mem_cons_of_mem _ hy)) hs y hy
/-- What a sample that is put leaves. -/
structure PasP (la mo pa : Int) (S : List SrP) (k cnt : Nat) (m : ByteArray) (L : List Lb) (tm x : Int) : Prop where
  late : mayE la mo S m L tm = 8 ↔ smpE m L tm = 0 ∧ tm ≤ mkI la mo
  inv : PasI la (putMo la mo S m L tm) pa (putSS la mo S m L tm x) (k + 1) (cnt + if mayE la mo S m L tm = 0 then 1 else 0)
  told : (btE 0 pa (ptsL (putSS la mo S m L tm x))).map (smE (putSS la mo S m L tm x)) = (btE 0 pa (ptsL S)).map (smE S)
  ge : mo ≤ putMo la mo S m L tm
theorem PasI.put {la mo pa : Int} {S : List SrP} {k cnt : Nat} {m : ByteArray} {L : List Lb} {tm : Int} (x : Int) (h : PasI la mo pa S k cnt) (hk : k ≤ 1000) (hs : smallS m L) : PasP la mo pa S k cnt m L tm x := by
  have hE := may_few (la := la) (mo := mo) (m := m) (L := L) (tm := tm) h.few hk
  have hS := putSS_R la mo S m L tm x
  have hM : putMo la mo S m L tm = if mayE la mo S m L tm = 0 then max mo tm else mo := rfl
  have stay : ∀ E : Int, mayE la mo S m L tm = E → E ≠ 0 → PasI la (putMo la mo S m L tm) pa (putSS la mo S m L tm x) (k + 1) (cnt + if mayE la mo S m L tm = 0 then 1 else 0) ∧ (btE 0 pa (ptsL (putSS la mo S m L tm x))).map (smE (putSS la mo S m L tm x)) = (btE 0 pa (ptsL S)).map (smE S) ∧ mo ≤ putMo la mo S m L tm := fun E e0 h0 => by
    rw [hS, hM, e0, if_neg h0, if_neg h0, if_neg h0]
    exact ⟨⟨h.few.more (Nat.le_succ _), h.nd, h.ser, h.tot, h.la0, h.mo0, h.pa0, h.pam⟩, rfl, Int.le_refl _⟩
  by_cases e0 : smpE m L tm ≠ 0
  · rw [if_pos e0] at hE
    obtain ⟨s1, s2, s3⟩ := stay _ hE e0
    refine ⟨?_, s1, s2, s3⟩
    rw [hE]
    have := smp_val m L tm
    omega
  have ez : smpE m L tm = 0 := by omega
  rw [if_neg e0] at hE
  by_cases e1 : tm ≤ mkI la mo
  · rw [if_pos e1] at hE
    obtain ⟨s1, s2, s3⟩ := stay _ hE (by decide)
    exact ⟨⟨fun _ => ⟨ez, e1⟩, fun _ => hE⟩, s1, s2, s3⟩
  rw [if_neg e1] at hE
  by_cases e2 : hasT tm (lookK (seK (m, L)) S) = true
  · rw [if_pos e2] at hE
    obtain ⟨s1, s2, s3⟩ := stay _ hE (by decide)
    exact ⟨⟨fun e => by rw [hE] at e; exact absurd e (by decide), fun e => absurd e.2 e1⟩, s1, s2, s3⟩
  rw [if_neg e2] at hE
  have e2 : hasT tm (lookK (seK (m, L)) S) = false := by simpa using e2
  have ht := smp_t ez
  have hser : serE m L = 0 := by
    unfold smpE at ez
    by_cases h1 : serE m L = 0
    · exact h1
    · rw [if_neg h1] at ez; exact ez
  refine ⟨⟨fun e => by rw [hE] at e; exact absurd e (by decide), fun e => absurd e.2 e1⟩, ?_, ?_, ?_⟩
  · rw [hS, hM, hE, if_pos rfl, if_pos rfl, if_pos rfl]
    have hp := h.pam
    have hm := h.mo0
    refine ⟨h.few.put e2, keys_put_nodup h.nd, putR_ser (R := fun s => serE s.1 s.2 = 0 ∧ smallS s.1 s.2) h.ser ⟨hser, hs⟩, ?_, h.la0, by omega, h.pa0, ?_⟩
    · rw [tot_put h.few.rise e2, h.tot]
      unfold inR
      rw [if_pos (by show 0 < tm ∧ tm ≤ 1099511627776; omega)]
    · have := mk_more (la := la) (show mo ≤ max mo tm by omega)
      omega
  · rw [hS, hE, if_pos rfl]
    have hp := h.pam
    exact told_late (q := (tm, x)) (by show pa < tm; omega) S
  · rw [hM, hE, if_pos rfl]
    omega
/-! ### All samples, put again -/
structure AgI (la mo2 : Int) (S S2 : List SrP) (E : List Ev) (j : Nat) : Prop where
  few : Few S2 j
  has : ∀ K t, hasT t (lookK K S2) = true → ∃ (i : Nat) (h : i < E.length), i < j ∧ K = seK (smE S E[i]).1 ∧ t = E[i].1
  tot : la ≠ 0 → totR 0 1099511627776 S2 = j
  le : ∀ (i : Nat) (h : i < E.length), j ≤ i → mo2 ≤ E[i].1
  mo0 : 0 ≤ mo2
theorem AgI.nil {la : Int} {S : List SrP} {E : List Ev} (h : ∀ e ∈ E, 0 < e.1) : AgI la 0 S [] E 0 :=
  ⟨Few.nil, fun K t h => by simp [lookK, hasT] at h, fun _ => rfl, fun i hi _ => by have := h _ (List.getElem_mem hi); omega, Int.le_refl _⟩
theorem key_id {S : List SrP} (hn : (keysS S).Nodup) {a b : Ev} (ha : 1 ≤ a.2.1 ∧ a.2.1 ≤ S.length) (hb : 1 ≤ b.2.1 ∧ b.2.1 ≤ S.length) (h : seK (smE S a).1 = seK (smE S b).1) : a.2.1 = b.2.1 := by
  have g : ∀ c : Ev, ∀ (h1 : 1 ≤ c.2.1) (h2 : c.2.1 ≤ S.length), seK (smE S c).1 = (keysS S)[c.2.1 - 1]'(by rw [keys_len]; omega) := fun c h1 h2 => by
    unfold smE keysS
    simp only [List.getElem_map]
    rw [List.getD_eq_getElem?_getD, List.getElem?_eq_getElem (by rw [List.length_map]; omega)]
    simp
  rw [g a ha.1 ha.2, g b hb.1 hb.2] at h
  have hp := List.pairwise_iff_getElem.1 hn
  have la := keys_len S
  rcases Nat.lt_trichotomy (a.2.1 - 1) (b.2.1 - 1) with h1 | h1 | h1
  · exact absurd h (hp _ _ (by omega) (by omega) h1)
  · omega
  · exact absurd h.symm (hp _ _ (by omega) (by omega) h1)
structure AgP (la mo2 : Int) (S S2 : List SrP) (E : List Ev) (j : Nat) (m : ByteArray) (L : List Lb) (tm x : Int) : Prop where
  ok : mayE la mo2 S2 m L tm = 0 ∨ (la = 0 ∧ mayE la mo2 S2 m L tm = 8)
  inv : AgI la (putMo la mo2 S2 m L tm) S (putSS la mo2 S2 m L tm x) E (j + 1)
theorem AgI.put {la mo mo2 pa : Int} {S S2 : List SrP} {E : List Ev} {j k cnt : Nat} {m : ByteArray} {L : List Lb} {tm x : Int} (h : AgI la mo2 S S2 E j) (hp : PasI la mo pa S k cnt) (hE : btE 0 1099511627776 (ptsL S) = E) (hj : j < E.length) (hj2 : j ≤ 1000) (he : smE S E[j] = ((m, L), tm, x)) : AgP la mo2 S S2 E j m L tm x := by
  have hsrt : SrtE E := by rw [← hE]; exact btE_srt hp.rise
  have hin : ∀ (i : Nat) (hi : i < E.length), (0 < E[i].1 ∧ E[i].1 ≤ 1099511627776) ∧ 1 ≤ E[i].2.1 ∧ E[i].2.1 ≤ S.length := fun i hi => by
    have h1 : E[i] ∈ btE 0 1099511627776 (ptsL S) := by rw [hE]; exact List.getElem_mem hi
    have h2 := btE_id h1
    rw [List.length_map] at h2
    exact ⟨btE_tm h1, h2⟩
  have hjt : E[j].1 = tm := by have := congrArg (fun y => y.2.1) he; exact this
  have hjk : (smE S E[j]).1 = (m, L) := congrArg (fun y => y.1) he
  obtain ⟨⟨ht1, ht2⟩, hi1, hi2⟩ := hin j hj
  have hmem : ∃ y ∈ S, y.1 = (m, L) := by
    refine ⟨S[E[j].2.1 - 1]'(by omega), List.getElem_mem _, ?_⟩
    rw [← hjk]
    unfold smE
    simp only
    rw [List.getD_eq_getElem?_getD, List.getElem?_eq_getElem (by rw [List.length_map]; omega)]
    simp
  obtain ⟨y, hy, hyk⟩ := hmem
  have hser := (hp.ser y hy).1
  rw [hyk] at hser
  simp only at hser
  have hsm : smpE m L tm = 0 := by
    unfold smpE
    rw [if_pos hser, if_neg (by omega)]
  have hF := may_few (la := la) (mo := mo2) (m := m) (L := L) (tm := tm) h.few hj2
  rw [if_neg (fun e => e hsm)] at hF
  have hS := putSS_R la mo2 S2 m L tm x
  have hM : putMo la mo2 S2 m L tm = if mayE la mo2 S2 m L tm = 0 then max mo2 tm else mo2 := rfl
  have hle := h.le j hj (Nat.le_refl _)
  rw [hjt] at hle
  have hnext : ∀ (i : Nat) (hi : i < E.length), j + 1 ≤ i → tm ≤ E[i].1 := fun i hi hji => by rw [← hjt]; exact srt_time hsrt hj hi (by omega)
  by_cases e1 : tm ≤ mkI la mo2
  · rw [if_pos e1] at hF
    have hl0 : la = 0 := by
      have := hp.la0
      unfold mkI at e1
      omega
    refine ⟨.inr ⟨hl0, hF⟩, ?_⟩
    rw [hS, hM, hF, if_neg (by decide), if_neg (by decide)]
    exact ⟨h.few.more (Nat.le_succ _), fun K t hk => by obtain ⟨i, hi, h1, h2⟩ := h.has K t hk; exact ⟨i, hi, by omega, h2⟩, fun e => absurd hl0 e, fun i hi hji => h.le i hi (by omega), h.mo0⟩
  rw [if_neg e1] at hF
  have e2 : ¬ hasT tm (lookK (seK (m, L)) S2) = true := fun e => by
    obtain ⟨i, hi, hij, hk, ht⟩ := h.has _ _ e
    have h1 := (List.pairwise_iff_getElem.1 hsrt) i j hi hj hij
    rw [ltE_iff, hjt, ← ht] at h1
    have h2 := key_id hp.nd (hin i hi).2 (hin j hj).2 (by rw [← hk, hjk])
    omega
  rw [if_neg e2] at hF
  have e2 : hasT tm (lookK (seK (m, L)) S2) = false := by simpa using e2
  refine ⟨.inl hF, ?_⟩
  rw [hS, hM, hF, if_pos rfl, if_pos rfl]
  refine ⟨h.few.put e2, fun K t hk => ?_, fun e => ?_, fun i hi hji => ?_, by have := h.mo0; omega⟩
  · rcases (has_put (s := (m, L)) (q := (tm, x)) (S := S2) (K := K) (t := t) e2).1 hk with ⟨rfl, rfl⟩ | hk
    · exact ⟨j, hj, Nat.lt_succ_self _, by rw [hjk], hjt.symm⟩
    · obtain ⟨i, hi, h1, h2⟩ := h.has K t hk
      exact ⟨i, hi, by omega, h2⟩
  · rw [tot_put h.few.rise e2, h.tot e]
    unfold inR
    rw [if_pos (by show 0 < tm ∧ tm ≤ 1099511627776; omega)]
  · have := hnext i hi hji
    have := h.le i hi (by omega)
    omega
end Go.Proofs.Ytangcgfchalnaaa

/- The reference's labels: whether a name, labels, a series, a sample may be. -/
namespace Go.Proofs.Ytangcgfchalnaaa
open Go.RowKit
theorem name_iff {s : ByteArray} : nameB s = true ↔ (1 ≤ s.size ∧ s.size ≤ 24) ∧ ∀ j (hj : j < s.size), okC ((s[j]).toNat : Int) = true ∧ (j = 0 → ¬ ((48 : Int) ≤ ((s[j]).toNat : Int) ∧ ((s[j]).toNat : Int) ≤ 57)) := by
  unfold nameB
  simp only [Bool.and_eq_true, decide_eq_true_eq, Bool.not_eq_true', decide_eq_false_iff_not, List.all_eq_true]
  constructor
  · rintro ⟨⟨h1, h2⟩, h3⟩
    refine ⟨h1, fun j hj => ⟨h3 _ (get_mem s j hj), fun e => ?_⟩⟩
    subst e
    rw [head_get (by omega)] at h2
    exact h2
  · rintro ⟨h1, h2⟩
    refine ⟨⟨h1, ?_⟩, fun c hc => ?_⟩
    · rw [head_get (by omega)]
      exact (h2 0 (by omega)).2 rfl
    · obtain ⟨k, hk, rfl⟩ := mem_get hc
      exact (h2 k hk).1
set_option maxHeartbeats 4000000 in
set_option maxRecDepth 100000 in
theorem rname_any {s : ByteArray} (hs : s.size ≤ 300) (w : World) : Calls Try.prog 65 #[.string s] w fun e w' => e = .returned (.bool (nameB s)) ∧ w = w' := by
  obtain ⟨b, hb⟩ : ∃ b, nameB s = b := ⟨_, rfl⟩
  rw [hb]
  have HB := Lib.hid hb
  clear hb
  go_enter Try.func65, Try.ntmps65
  go_wp2_with fail
  go_loopw [3, 4] (fun v _ wr => ∃ k : Nat, v = .int .i64 k ∧ k ≤ s.size ∧ Hid (∀ j (hj : j < s.size), j < k → okC ((s[j]).toNat : Int) = true ∧ (j = 0 → ¬ ((48 : Int) ≤ ((s[j]).toNat : Int) ∧ ((s[j]).toNat : Int) ≤ 57))) ∧ Hid (w = wr)) (fun v _ _ => s.size - (intOf v).toNat)
  case atStart => exact ⟨0, rfl, Nat.zero_le _, Lib.hid (fun _ _ h => absurd h (by omega)), Lib.hid rfl⟩
  case round =>
    obtain ⟨k, rfl, hk, HLt, HW⟩ := hrel
    obtain rfl := HW.out
    by_cases hk2 : k < s.size
    · have hkI : (k : Int) < (s.size : Int) := by omega
      obtain ⟨c, hc⟩ : ∃ c : Int, ((s[k]).toNat : Int) = c := ⟨_, rfl⟩
      have HC := Lib.hid hc
      by_cases hok : okC c = true ∧ (k = 0 → ¬ ((48 : Int) ≤ c ∧ c ≤ 57))
      · have HLt2 : Hid (∀ j (hj : j < s.size), j < k + 1 → okC ((s[j]).toNat : Int) = true ∧ (j = 0 → ¬ ((48 : Int) ≤ ((s[j]).toNat : Int) ∧ ((s[j]).toNat : Int) ≤ 57))) := Lib.hid (fun j hj hjk => by
          rcases Nat.lt_or_eq_of_le (Nat.le_of_lt_succ hjk) with h | rfl
          · exact HLt.out j hj h
          · rw [HC.out]; exact hok)
        have hok2 : (97 ≤ c ∧ c ≤ 122) ∨ c = 95 ∨ (48 ≤ c ∧ c ≤ 57 ∧ k ≠ 0) := by
          obtain ⟨h1, h2⟩ := hok
          unfold okC at h1
          simp only [Bool.or_eq_true, decide_eq_true_eq] at h1
          by_cases hk0 : k = 0
          · have := h2 hk0; omega
          · omega
        clear hok HC
        subst hc
        rcases hok2 with ⟨q1, q2⟩ | q1 | ⟨q1, q2, q3⟩
        · have q3 : ¬ ((s[k]).toNat : Int) < 97 := by omega
          have q4 : ¬ (122 : Int) < ((s[k]).toNat : Int) := by omega
          clear q1 q2
          have hw : IntKind.i64.wrap ((k : Int) + 1) = ((k + 1 : Nat) : Int) := by rw [IntKind.wrap_i64]; omega
          go_wp2_with fail
          go_roundw
          case rel => exact ⟨k + 1, by go_num, by omega, HLt2, Lib.hid (by first | rfl | trivial)⟩
          case measure => simp [intOf]; omega
        · have q2 : ¬ ((s[k]).toNat : Int) < 0 := by omega
          clear q2
          have hw : IntKind.i64.wrap ((k : Int) + 1) = ((k + 1 : Nat) : Int) := by rw [IntKind.wrap_i64]; omega
          go_wp2_with fail
          go_roundw
          case rel => exact ⟨k + 1, by go_num, by omega, HLt2, Lib.hid (by first | rfl | trivial)⟩
          case measure => simp [intOf]; omega
        · have q4 : ((s[k]).toNat : Int) < 97 := by omega
          have q5 : ¬ ((s[k]).toNat : Int) < 48 := by omega
          have q6 : ¬ (57 : Int) < ((s[k]).toNat : Int) := by omega
          have q7 : ¬ ((s[k]).toNat : Int) = 95 := by omega
          have q8 : ((k : Int) == 0) = false := by simp [q3]
          clear q1 q2
          have hw : IntKind.i64.wrap ((k : Int) + 1) = ((k + 1 : Nat) : Int) := by rw [IntKind.wrap_i64]; omega
          go_wp2_with fail
          go_roundw
          case rel => exact ⟨k + 1, by go_num, by omega, HLt2, Lib.hid (by first | rfl | trivial)⟩
          case measure => simp [intOf]; omega
      · obtain rfl : b = false := by
          rw [← HB.out]
          cases hb : nameB s with
          | false => rfl
          | true => exact absurd (by have := (name_iff.1 hb).2 k hk2; rw [hc] at this; exact this) hok
        have hok2 : c < 48 ∨ (57 < c ∧ c < 97 ∧ c ≠ 95) ∨ 122 < c ∨ (48 ≤ c ∧ c ≤ 57 ∧ k = 0) := by
          by_cases h1 : okC c = true
          · have h2 : k = 0 ∧ 48 ≤ c ∧ c ≤ 57 := by
              by_cases h3 : k = 0 ∧ 48 ≤ c ∧ c ≤ 57
              · exact h3
              · exact absurd ⟨h1, fun e h4 => h3 ⟨e, h4⟩⟩ hok
            omega
          · unfold okC at h1
            simp only [Bool.or_eq_true, decide_eq_true_eq] at h1
            omega
        clear hok HC HLt
        subst hc
        rcases hok2 with q1 | ⟨q1, q2, q3⟩ | q1 | ⟨q1, q2, q3⟩
        · have q4 : ((s[k]).toNat : Int) < 97 := by omega
          have q7 : ¬ ((s[k]).toNat : Int) = 95 := by omega
          go_wp2_with fail
          go_ret
          exact ⟨rfl, rfl⟩
        · have q5 : ¬ ((s[k]).toNat : Int) < 48 := by omega
          go_wp2_with fail
          go_ret
          exact ⟨rfl, rfl⟩
        · have q4 : ¬ ((s[k]).toNat : Int) < 97 := by omega
          have q5 : ¬ ((s[k]).toNat : Int) < 48 := by omega
          have q6 : (57 : Int) < ((s[k]).toNat : Int) := by omega
          have q7 : ¬ ((s[k]).toNat : Int) = 95 := by omega
          go_wp2_with fail
          go_ret
          exact ⟨rfl, rfl⟩
        · have q4 : ((s[k]).toNat : Int) < 97 := by omega
          have q5 : ¬ ((s[k]).toNat : Int) < 48 := by omega
          have q6 : ¬ (57 : Int) < ((s[k]).toNat : Int) := by omega
          have q7 : ¬ ((s[k]).toNat : Int) = 95 := by omega
          subst q3
          clear q1 q2
          go_wp2_with fail
          go_ret
          exact ⟨rfl, rfl⟩
    · have hkI : ¬ (k : Int) < (s.size : Int) := by omega
      obtain rfl : k = s.size := by omega
      have hb : b = decide (1 ≤ s.size ∧ s.size ≤ 24) := by
        rw [← HB.out]
        by_cases h : 1 ≤ s.size ∧ s.size ≤ 24
        · rw [decide_eq_true h]
          exact name_iff.2 ⟨h, fun j hj => HLt.out j hj hj⟩
        · rw [decide_eq_false h]
          cases hb : nameB s with
          | false => rfl
          | true => exact absurd (name_iff.1 hb).1 h
      clear HB
      obtain ⟨z, hz⟩ : ∃ z, s.size = z := ⟨_, rfl⟩
      by_cases g1 : 1 ≤ s.size
      · have g1I : (1 : Int) ≤ (s.size : Int) := by omega
        by_cases g2 : s.size ≤ 24
        · have g2I : (s.size : Int) ≤ 24 := by omega
          obtain rfl : b = true := by rw [hb]; simp; omega
          clear hb hz
          go_wp2_with fail
          go_ret
          exact ⟨rfl, rfl⟩
        · have g2I : ¬ (s.size : Int) ≤ 24 := by omega
          obtain rfl : b = false := by rw [hb]; simp; omega
          clear hb hz
          go_wp2_with fail
          go_ret
          exact ⟨rfl, rfl⟩
      · have g1I : ¬ (1 : Int) ≤ (s.size : Int) := by omega
        obtain rfl : b = false := by rw [hb]; simp; omega
        clear hb hz
        go_wp2_with fail
        go_ret
        exact ⟨rfl, rfl⟩
end Go.Proofs.Ytangcgfchalnaaa

/- The reference's labels: whether labels, a series, a sample may be. -/
namespace Go.Proofs.Ytangcgfchalnaaa
open Go.RowKit
/-- The name ahead of the k-th. -/
def lastN (L : List Lb) (k : Nat) : ByteArray := if k = 0 then ByteArray.mk #[] else (L.getD (k - 1) (ByteArray.mk #[], ByteArray.mk #[])).1
theorem name_pos {n : ByteArray} (h : nameB n = true) : (Op.bytesLess n.toList (ByteArray.mk #[]).toList || n.toList == (ByteArray.mk #[]).toList) = false := by
  have h1 := (name_iff.1 h).1.1
  have h2 : n.toList.length = n.size := by rw [ByteArray.toList_eq]; rfl
  have h3 : (ByteArray.mk #[]).toList = [] := by rw [ByteArray.toList_eq]
  rw [h3]
  cases hl : n.toList with
  | nil => rw [hl] at h2; simp at h2; omega
  | cons a r => rfl
theorem less_tot : ∀ a b : List UInt8, (Op.bytesLess a b || a == b) = !Op.bytesLess b a
  | [], [] => rfl
  | [], b :: r => rfl
  | a :: l, [] => rfl
  | a :: l, b :: r => by
    have ih := less_tot l r
    simp only [Op.bytesLess]
    by_cases h1 : a < b
    · have h2 : ¬ b < a := fun h => UInt8.lt_asymm h1 h
      have h3 : ¬ b = a := fun h => UInt8.lt_irrefl _ (h ▸ h1)
      simp [h1, h2, h3]
    · by_cases h2 : b < a
      · have h3 : ¬ a = b := fun h => UInt8.lt_irrefl _ (h ▸ h2)
        simp [h1, h2, h3]
      · have h3 : a = b := UInt8.le_antisymm (UInt8.not_lt.1 h2) (UInt8.not_lt.1 h1)
        subst h3
        simp only [h1, decide_false, Bool.false_or, beq_self_eq_true, Bool.true_and] at ih ⊢
        simpa using ih
set_option maxHeartbeats 8000000 in
set_option maxRecDepth 100000 in
theorem rcheck_any {A : Option Addr} {c n : Nat} {L : List Lb} {w : World} (hn : L.length = n) (h : RdLb w A L) (hS : smallL L) : Calls Try.prog 66 #[.slice A n c] w fun e w' => e = .returned (.int .i64 (labE L)) ∧ Below w.heap.size w w' := by
  have HN := Lib.hid hn
  have H := Lib.hid h
  have HS := Lib.hid hS
  unfold labE
  rw [hn]
  obtain ⟨x, hx⟩ : ∃ x : Int, (if labOk (ByteArray.mk #[]) L = true then 0 else 2) = x := ⟨_, rfl⟩
  rw [hx]
  have HX := Lib.hid hx
  have hn30 : n ≤ 30 := by rw [← hn]; exact hS.1
  clear hn h hx hS
  by_cases h8 : 8 < n
  · rw [if_pos h8]
    have h9 : (8 : Int) < (n : Int) := by omega
    go_enter Try.func66, Try.ntmps66
    go_wp2_with fail
    go_ret
    exact ⟨rfl, Below.refl _ _⟩
  rw [if_neg h8]
  have h9 : ¬ (8 : Int) < (n : Int) := by omega
  go_enter Try.func66, Try.ntmps66
  go_wp2_with fail
  clear h9
  go_loopw [3] (fun v wr => ∃ k : Nat, v = .int .i64 k ∧ k ≤ n ∧ Hid (labOk (ByteArray.mk #[]) L = labOk (lastN L k) (L.drop k)) ∧ Hid (Below w.heap.size w wr)) (fun v _ => n - (intOf v).toNat)
  case atStart => exact ⟨0, rfl, Nat.zero_le _, Lib.hid rfl, Lib.hid (Below.refl _ _)⟩
  case round =>
    obtain ⟨k, rfl, hk, HL, HB⟩ := hrel
    by_cases h0 : k < n
    · have hkP : k < L.length := by rw [HN.out]; exact h0
      obtain ⟨ad, hA, hlt, _⟩ := (H.out.below HB.out).at_ hkP
      subst hA
      have hkI : (k : Int) < (n : Int) := by omega
      have hdr : labOk (lastN L k) (L.drop k) = labOk (lastN L k) (L[k] :: L.drop (k + 1)) := by rw [List.drop_eq_getElem_cons hkP]
      have hsm := (HS.out.2 _ (List.getElem_mem hkP)).1
      obtain ⟨⟨nm, t⟩, hnt⟩ : ∃ x, L[k] = x := ⟨_, rfl⟩
      have hln : lastN L (k + 1) = nm := by
        unfold lastN
        rw [if_neg (by omega), Nat.add_sub_cancel, List.getD_eq_getElem?_getD, List.getElem?_eq_getElem hkP, hnt]; rfl
      rw [hnt] at hdr hsm
      obtain ⟨pv, hpv⟩ : ∃ s, lastN L k = s := ⟨_, rfl⟩
      have HCs : Hid (∀ W, Below wr.heap.size wr W → W.cell? (ad.add (k * 2)) = some (.string nm) ∧ W.cell? { block := (ad.add (k * 2)).block, off := (ad.add (k * 2)).off + 1 } = some (.string t) ∧ (0 < k → W.cell? (ad.add ((k - 1) * 2)) = some (.string pv))) := Lib.hid (fun W hb => by
        have hR := (H.out.below HB.out).below hb
        obtain ⟨c0, c1⟩ := hR.some_ hkP
        rw [hnt] at c0 c1
        refine ⟨c0, c1, fun hk0 => ?_⟩
        have hk1 : k - 1 < L.length := by omega
        obtain ⟨e0, _⟩ := hR.some_ hk1
        rw [← hpv]
        unfold lastN
        rw [if_neg (by omega), List.getD_eq_getElem?_getD, List.getElem?_eq_getElem hk1]
        exact e0)
      rw [hpv] at hdr HL
      obtain ⟨b1, hb1⟩ : ∃ b, nameB nm = b := ⟨_, rfl⟩
      obtain ⟨b2, hb2⟩ : ∃ b, (Op.bytesLess nm.toList pv.toList || nm.toList == pv.toList) = b := ⟨_, rfl⟩
      obtain ⟨b3, hb3⟩ : ∃ b, t.toList.isEmpty = b := ⟨_, rfl⟩
      have HD : Hid (labOk (ByteArray.mk #[]) L = (b1 && !b2 && !b3 && decide (t.size ≤ 64) && labOk nm (L.drop (k + 1)))) := Lib.hid (by
        rw [HL.out, hdr]; simp only [labOk]; rw [hb1, hb2, hb3])
      have HNx : Hid (labOk nm (L.drop (k + 1)) = labOk (lastN L (k + 1)) (L.drop (k + 1))) := Lib.hid (by rw [hln])
      have CN : Hid (∀ W : World, Calls Try.prog 65 #[.string nm] W fun e w' => e = .returned (.bool b1) ∧ Below W.heap.size W w') := Lib.hid (fun W => by
        refine (rname_any hsm W).mono ?_
        rintro e w' ⟨rfl, rfl⟩
        exact ⟨by rw [hb1], Below.refl _ _⟩)
      have hpn : k = 0 → b1 = true → b2 = false := fun hk0 he => by
        rw [← hb2, ← hpv, hk0]
        exact name_pos (hb1.trans he)
      have HPn := Lib.hid hpn
      clear hdr hnt hln hpv hsm hb1 hpn hlt
      cases b1
      case false =>
        obtain rfl : 2 = x := by rw [← HX.out, HD.out]; rfl
        clear hb2 hb3
        go_wp2_with (fail)
        refine wp_region_here 42 [(0, false), (1, false), (2, false), (3, false), (4, false), (5, false), (6, false), (7, false), (8, false), (9, false), (10, false), (11, false), (12, false), (13, false), (14, false), (15, false), (16, false), (17, false), (18, false), (19, false), (20, false), (21, false), (22, false), (23, false), (24, false), (25, false), (26, false), (27, false), (28, false), (29, false), (30, false), (31, false), (32, false), (33, false), (34, false), (35, false), (36, false), (37, false), (38, false), (39, false), (40, false), (41, false)] (fun _ => .cells #[] 0) (by kernel_rfl) (by kernel_rfl) ?_
        repeat (first | (refine wpP_q rfl rfl rfl ?_; apply Exists.intro; refine ⟨fun w' hw' => ?_, fun K hK => ?_⟩; (focus ((obtain ⟨c0, c1, e0⟩ := HCs.out _ hw'); go_simp; first | exact quiet_value | with_reducible exact quiet_enter (CN.out _))); simp only [Act.put, List.setIfInBounds_toArray, List.set_cons_zero, List.set_cons_succ]; refine hK.out _ ?_; clear hK K) | (refine wpP_skip rfl rfl rfl (fun K hK => ?_); simp only [Act.put, List.setIfInBounds_toArray, List.set_cons_zero, List.set_cons_succ]; refine hK.out _ ?_; clear hK K) | (refine wpP_skipu rfl rfl rfl (fun K hK => ?_); simp only [Act.put, List.setIfInBounds_toArray, List.set_cons_zero, List.set_cons_succ]; refine hK.out _ ?_; clear hK K))
        refine wpP_nil ?_
        intro w2 hb2
        have HB2 := Lib.hid (HB.out.trans (hb2.mono HB.out.size))
        clear hb2
        try simp only [List.drop_succ_cons, List.drop_zero]
        go_wp2_with fail
        go_ret
        exact ⟨rfl, HB2.out⟩
      case true =>
        cases b3
        case true =>
          obtain rfl : 2 = x := by rw [← HX.out, HD.out]; cases b2 <;> rfl
          clear hb2
          go_wp2_with (fail)
          refine wp_region_here 42 [(0, false), (1, false), (2, false), (3, false), (4, false), (5, false), (6, false), (7, false), (8, false), (9, false), (10, false), (11, false), (12, false), (13, false), (14, false), (15, false), (16, false), (17, false), (18, false), (19, false), (20, false), (21, false), (22, false), (23, false), (24, false), (25, false), (26, false), (27, false), (28, false), (29, false), (30, false), (31, false), (32, false), (33, false), (34, false), (35, false), (36, false), (37, false), (38, false), (39, false), (40, false), (41, false)] (fun _ => .cells #[] 0) (by kernel_rfl) (by kernel_rfl) ?_
          repeat (first | (refine wpP_q rfl rfl rfl ?_; apply Exists.intro; refine ⟨fun w' hw' => ?_, fun K hK => ?_⟩; (focus ((obtain ⟨c0, c1, e0⟩ := HCs.out _ hw'); go_simp; first | exact quiet_value | with_reducible exact quiet_enter (CN.out _))); simp only [Act.put, List.setIfInBounds_toArray, List.set_cons_zero, List.set_cons_succ]; refine hK.out _ ?_; clear hK K) | (refine wpP_skip rfl rfl rfl (fun K hK => ?_); simp only [Act.put, List.setIfInBounds_toArray, List.set_cons_zero, List.set_cons_succ]; refine hK.out _ ?_; clear hK K) | (refine wpP_skipu rfl rfl rfl (fun K hK => ?_); simp only [Act.put, List.setIfInBounds_toArray, List.set_cons_zero, List.set_cons_succ]; refine hK.out _ ?_; clear hK K))
          refine wpP_nil ?_
          intro w2 hb2
          have HB2 := Lib.hid (HB.out.trans (hb2.mono HB.out.size))
          clear hb2
          try simp only [List.drop_succ_cons, List.drop_zero]
          go_wp2_with fail
          go_ret
          exact ⟨rfl, HB2.out⟩
        case false =>
          by_cases h6 : t.size ≤ 64
          · have h7 : decide ((64 : Int) < (t.size : Int)) = false := by simp; omega
            by_cases hk0 : k = 0
            · obtain rfl : b2 = false := HPn.out hk0 rfl
              have HNy : Hid (labOk (ByteArray.mk #[]) L = labOk (lastN L (k + 1)) (L.drop (k + 1))) := Lib.hid (by rw [HD.out, decide_eq_true h6, ← HNx.out]; rfl)
              have hkZ : decide ((0 : Int) < (k : Int)) = false := by simp; omega
              have hkN : decide (0 < k) = false := by simp; omega
              clear hb2 hk0
              go_wp2_with (fail)
              refine wp_region_here 42 [(0, false), (1, false), (2, false), (3, false), (4, false), (5, false), (6, false), (7, false), (8, false), (9, false), (10, false), (11, false), (12, false), (13, false), (14, false), (15, false), (16, false), (17, false), (18, false), (19, false), (20, false), (21, false), (22, false), (23, false), (24, false), (25, false), (26, false), (27, false), (28, false), (29, false), (30, false), (31, false), (32, false), (33, false), (34, false), (35, false), (36, false), (37, false), (38, false), (39, false), (40, false), (41, false)] (fun _ => .cells #[] 0) (by kernel_rfl) (by kernel_rfl) ?_
              repeat (first | (refine wpP_q rfl rfl rfl ?_; apply Exists.intro; refine ⟨fun w' hw' => ?_, fun K hK => ?_⟩; (focus ((obtain ⟨c0, c1, e0⟩ := HCs.out _ hw'); go_simp; first | exact quiet_value | with_reducible exact quiet_enter (CN.out _))); simp only [Act.put, List.setIfInBounds_toArray, List.set_cons_zero, List.set_cons_succ]; refine hK.out _ ?_; clear hK K) | (refine wpP_skip rfl rfl rfl (fun K hK => ?_); simp only [Act.put, List.setIfInBounds_toArray, List.set_cons_zero, List.set_cons_succ]; refine hK.out _ ?_; clear hK K) | (refine wpP_skipu rfl rfl rfl (fun K hK => ?_); simp only [Act.put, List.setIfInBounds_toArray, List.set_cons_zero, List.set_cons_succ]; refine hK.out _ ?_; clear hK K))
              refine wpP_nil ?_
              intro w2 hb2
              have HB2 := Lib.hid (HB.out.trans (hb2.mono HB.out.size))
              clear hb2
              try simp only [List.drop_succ_cons, List.drop_zero]
              have hw : IntKind.i64.wrap ((k : Int) + 1) = ((k + 1 : Nat) : Int) := by rw [IntKind.wrap_i64]; omega
              go_wp2_with fail
              go_roundw
              case rel => exact ⟨k + 1, by go_num, by omega, HNy, HB2⟩
              case measure => simp [intOf]; omega
            · have hkZ : decide ((0 : Int) < (k : Int)) = true := by simp; omega
              have hkN : decide (0 < k) = true := by simp; omega
              have hwm : IntKind.i64.wrap ((k : Int) - 1) = ((k - 1 : Nat) : Int) := by rw [IntKind.wrap_i64]; omega
              have HC2 : Hid (∀ W, Below wr.heap.size wr W → W.cell? (ad.add ((k - 1) * 2)) = some (.string pv)) := Lib.hid (fun W hb => (HCs.out W hb).2.2 (by omega))
              obtain ⟨j, hj⟩ : ∃ j, k - 1 = j := ⟨_, rfl⟩
              rw [hj] at hwm HC2
              have hjn : j < n := by omega
              have hjI : (j : Int) < (n : Int) := by omega
              clear hj
              cases b2
              case true =>
                obtain rfl : 2 = x := by rw [← HX.out, HD.out]; rfl
                rw [less_tot] at hb2
                go_wp2_with (fail)
                refine wp_region_here 42 [(0, false), (1, false), (2, false), (3, false), (4, false), (5, false), (6, false), (7, false), (8, false), (9, false), (10, false), (11, false), (12, false), (13, false), (14, false), (15, false), (16, false), (17, false), (18, false), (19, false), (20, false), (21, false), (22, false), (23, false), (24, false), (25, false), (26, false), (27, false), (28, false), (29, false), (30, false), (31, false), (32, false), (33, false), (34, false), (35, false), (36, false), (37, false), (38, false), (39, false), (40, false), (41, false)] (fun _ => .cells #[] 0) (by kernel_rfl) (by kernel_rfl) ?_
                repeat (first | (refine wpP_q rfl rfl rfl ?_; apply Exists.intro; refine ⟨fun w' hw' => ?_, fun K hK => ?_⟩; (focus ((obtain ⟨c0, c1, _⟩ := HCs.out _ hw'; have e0 := HC2.out _ hw'); go_simp; first | exact quiet_value | with_reducible exact quiet_enter (CN.out _))); simp only [Act.put, List.setIfInBounds_toArray, List.set_cons_zero, List.set_cons_succ]; refine hK.out _ ?_; clear hK K) | (refine wpP_skip rfl rfl rfl (fun K hK => ?_); simp only [Act.put, List.setIfInBounds_toArray, List.set_cons_zero, List.set_cons_succ]; refine hK.out _ ?_; clear hK K) | (refine wpP_skipu rfl rfl rfl (fun K hK => ?_); simp only [Act.put, List.setIfInBounds_toArray, List.set_cons_zero, List.set_cons_succ]; refine hK.out _ ?_; clear hK K))
                refine wpP_nil ?_
                intro w2 hb2
                have HB2 := Lib.hid (HB.out.trans (hb2.mono HB.out.size))
                clear hb2
                try simp only [List.drop_succ_cons, List.drop_zero]
                go_wp2_with fail
                go_ret
                exact ⟨rfl, HB2.out⟩
              case false =>
                have HNy : Hid (labOk (ByteArray.mk #[]) L = labOk (lastN L (k + 1)) (L.drop (k + 1))) := Lib.hid (by rw [HD.out, decide_eq_true h6, ← HNx.out]; rfl)
                rw [less_tot] at hb2
                go_wp2_with (fail)
                refine wp_region_here 42 [(0, false), (1, false), (2, false), (3, false), (4, false), (5, false), (6, false), (7, false), (8, false), (9, false), (10, false), (11, false), (12, false), (13, false), (14, false), (15, false), (16, false), (17, false), (18, false), (19, false), (20, false), (21, false), (22, false), (23, false), (24, false), (25, false), (26, false), (27, false), (28, false), (29, false), (30, false), (31, false), (32, false), (33, false), (34, false), (35, false), (36, false), (37, false), (38, false), (39, false), (40, false), (41, false)] (fun _ => .cells #[] 0) (by kernel_rfl) (by kernel_rfl) ?_
                repeat (first | (refine wpP_q rfl rfl rfl ?_; apply Exists.intro; refine ⟨fun w' hw' => ?_, fun K hK => ?_⟩; (focus ((obtain ⟨c0, c1, _⟩ := HCs.out _ hw'; have e0 := HC2.out _ hw'); go_simp; first | exact quiet_value | with_reducible exact quiet_enter (CN.out _))); simp only [Act.put, List.setIfInBounds_toArray, List.set_cons_zero, List.set_cons_succ]; refine hK.out _ ?_; clear hK K) | (refine wpP_skip rfl rfl rfl (fun K hK => ?_); simp only [Act.put, List.setIfInBounds_toArray, List.set_cons_zero, List.set_cons_succ]; refine hK.out _ ?_; clear hK K) | (refine wpP_skipu rfl rfl rfl (fun K hK => ?_); simp only [Act.put, List.setIfInBounds_toArray, List.set_cons_zero, List.set_cons_succ]; refine hK.out _ ?_; clear hK K))
                refine wpP_nil ?_
                intro w2 hb2
                have HB2 := Lib.hid (HB.out.trans (hb2.mono HB.out.size))
                clear hb2
                try simp only [List.drop_succ_cons, List.drop_zero]
                have hw : IntKind.i64.wrap ((k : Int) + 1) = ((k + 1 : Nat) : Int) := by rw [IntKind.wrap_i64]; omega
                go_wp2_with fail
                go_roundw
                case rel => exact ⟨k + 1, by go_num, by omega, HNy, HB2⟩
                case measure => simp [intOf]; omega
          · have h7 : decide ((64 : Int) < (t.size : Int)) = true := by simp; omega
            obtain rfl : 2 = x := by rw [← HX.out, HD.out, decide_eq_false h6]; cases b2 <;> rfl
            clear hb2
            go_wp2_with (fail)
            refine wp_region_here 42 [(0, false), (1, false), (2, false), (3, false), (4, false), (5, false), (6, false), (7, false), (8, false), (9, false), (10, false), (11, false), (12, false), (13, false), (14, false), (15, false), (16, false), (17, false), (18, false), (19, false), (20, false), (21, false), (22, false), (23, false), (24, false), (25, false), (26, false), (27, false), (28, false), (29, false), (30, false), (31, false), (32, false), (33, false), (34, false), (35, false), (36, false), (37, false), (38, false), (39, false), (40, false), (41, false)] (fun _ => .cells #[] 0) (by kernel_rfl) (by kernel_rfl) ?_
            repeat (first | (refine wpP_q rfl rfl rfl ?_; apply Exists.intro; refine ⟨fun w' hw' => ?_, fun K hK => ?_⟩; (focus ((obtain ⟨c0, c1, e0⟩ := HCs.out _ hw'); go_simp; first | exact quiet_value | with_reducible exact quiet_enter (CN.out _))); simp only [Act.put, List.setIfInBounds_toArray, List.set_cons_zero, List.set_cons_succ]; refine hK.out _ ?_; clear hK K) | (refine wpP_skip rfl rfl rfl (fun K hK => ?_); simp only [Act.put, List.setIfInBounds_toArray, List.set_cons_zero, List.set_cons_succ]; refine hK.out _ ?_; clear hK K) | (refine wpP_skipu rfl rfl rfl (fun K hK => ?_); simp only [Act.put, List.setIfInBounds_toArray, List.set_cons_zero, List.set_cons_succ]; refine hK.out _ ?_; clear hK K))
            refine wpP_nil ?_
            intro w2 hb2
            have HB2 := Lib.hid (HB.out.trans (hb2.mono HB.out.size))
            clear hb2
            try simp only [List.drop_succ_cons, List.drop_zero]
            go_wp2_with fail
            go_ret
            exact ⟨rfl, HB2.out⟩
    · have hkI : ¬ (k : Int) < (n : Int) := by omega
      obtain rfl : 0 = x := by rw [← HX.out, HL.out, List.drop_eq_nil_of_le (by rw [HN.out]; omega)]; rfl
      go_wp2_with fail
      go_ret
      exact ⟨rfl, HB.out⟩
end Go.Proofs.Ytangcgfchalnaaa
