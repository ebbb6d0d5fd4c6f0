/- Parts of the proof: MwL MwW. -/
import Derived.Test.YtangcgfchalnaaaYay
import Derived.Test.YtangcgfchalnaaaYaz
import Derived.Test.YtangcgfchalnaaaYam
/- mark: what is put, by its keys; two intakes of unlike latenesses. No world. -/
namespace Go.Proofs.Ytangcgfchalnaaa
open Go.RowKit Go.MapKept
instance lawBytes : LawfulBEq ByteArray where
  eq_of_beq h := (bytes_beq _ _).1 h
  rfl := (bytes_beq _ _).2 rfl
/-! ### Points by keys -/
def lookK (K : ByteArray) : List SrP → List Pt
  | [] => []
  | y :: r => if seK y.1 = K then y.2 else lookK K r
theorem look_pts (K : ByteArray) : ∀ S : List SrP, ptsS (idK K (S.map (·.1))) S = lookK K S
  | [] => rfl
  | y :: r => by
    have ih := look_pts K r
    simp only [List.map_cons, idK, lookK]
    by_cases h : seK y.1 = K
    · rw [if_pos h, if_pos h]; rfl
    · rw [if_neg h, if_neg h]
      by_cases h0 : idK K (r.map (·.1)) = 0
      · rw [if_pos h0, ← ih, h0]; rfl
      · rw [if_neg h0, ← ih]
        unfold ptsS
        rw [if_neg (by omega), if_neg h0, Nat.add_sub_cancel]
        obtain ⟨j, hj⟩ : ∃ j, idK K (r.map (·.1)) = j + 1 := ⟨idK K (r.map (·.1)) - 1, by omega⟩
        rw [hj]; rfl
def putR (s : SeC) (q : Pt) : List SrP → List SrP
  | [] => [(s, [q])]
  | y :: r => if seK y.1 = seK s then (y.1, insP q y.2) :: r else y :: putR s q r
theorem putS_R (s : SeC) (q : Pt) : ∀ S : List SrP, putS (idK (seK s) (S.map (·.1))) S s q = putR s q S
  | [] => rfl
  | y :: r => by
    have ih := putS_R s q r
    simp only [List.map_cons, idK, putR]
    by_cases h : seK y.1 = seK s
    · rw [if_pos h, if_pos h]; rfl
    · rw [if_neg h, if_neg h, ← ih]
      by_cases h0 : idK (seK s) (r.map (·.1)) = 0
      · rw [if_pos h0, h0]; rfl
      · rw [if_neg h0]
        unfold putS
        rw [if_neg (by omega), if_neg h0, Nat.add_sub_cancel]
        obtain ⟨j, hj⟩ : ∃ j, idK (seK s) (r.map (·.1)) = j + 1 := ⟨idK (seK s) (r.map (·.1)) - 1, by omega⟩
        rw [hj]; rfl
def keysS (S : List SrP) : List ByteArray := S.map (fun y => seK y.1)
theorem keys_put (s : SeC) (q : Pt) : ∀ S : List SrP, keysS (putR s q S) = if seK s ∈ keysS S then keysS S else keysS S ++ [seK s]
  | [] => by simp [keysS, putR]
  | y :: r => by
    have ih := keys_put s q r
    unfold keysS at ih ⊢
    simp only [putR, List.map_cons, List.mem_cons]
    by_cases h : seK y.1 = seK s
    · rw [if_pos h, if_pos (.inl h.symm)]; rfl
    · rw [if_neg h, List.map_cons, ih]
      by_cases h1 : seK s ∈ r.map (fun y => seK y.1)
      · rw [if_pos h1, if_pos (.inr h1)]
      · rw [if_neg h1, if_neg (fun e => e.elim (fun e => h e.symm) h1)]; rfl
theorem keys_len (S : List SrP) : (keysS S).length = S.length := List.length_map _
theorem keys_put_mem {s : SeC} {q : Pt} {S : List SrP} {K : ByteArray} : K ∈ keysS (putR s q S) ↔ K = seK s ∨ K ∈ keysS S := by
  rw [keys_put]
  split
  · rename_i h
    exact ⟨.inr, fun e => e.elim (fun e => e ▸ h) id⟩
  · rw [List.mem_append, List.mem_singleton]
    exact ⟨fun e => e.symm, fun e => e.symm⟩
theorem keys_put_nodup {s : SeC} {q : Pt} {S : List SrP} (h : (keysS S).Nodup) : (keysS (putR s q S)).Nodup := by
  rw [keys_put]
  split
  · exact h
  · rename_i h1
    rw [List.nodup_append]
    exact ⟨h, by simp, fun a ha b hb e => h1 (by obtain rfl := List.mem_singleton.1 hb; exact e ▸ ha)⟩
theorem nodup_sub : ∀ {A B : List ByteArray}, A.Nodup → (∀ x ∈ A, x ∈ B) → A.length ≤ B.length
  | [], B, _, _ => Nat.zero_le _
  | a :: A, B, h, hs => by
    obtain ⟨h1, h2⟩ := List.nodup_cons.1 h
    have ha := hs a List.mem_cons_self
    have := nodup_sub (A := A) (B := B.erase a) h2 (fun x hx => by
      have hne : x ≠ a := fun e => h1 (e ▸ hx)
      exact (List.mem_erase_of_ne hne).2 (hs x (List.mem_cons_of_mem _ hx)))
    rw [List.length_erase_of_mem ha] at this
    have hp := List.length_pos_of_mem ha
    rw [List.length_cons]
    omega
theorem look_put (s : SeC) (q : Pt) (K : ByteArray) : ∀ S : List SrP, lookK K (putR s q S) = if K = seK s then insP q (lookK K S) else lookK K S
  | [] => by
    simp only [putR, lookK]
    by_cases h : K = seK s
    · rw [if_pos h, if_pos h.symm, insP_nil]
    · rw [if_neg h, if_neg (fun e => h e.symm)]
  | y :: r => by
    have ih := look_put s q K r
    simp only [putR, lookK]
    by_cases h : seK y.1 = seK s
    · rw [if_pos h]
      simp only [lookK]
      by_cases h1 : seK y.1 = K
      · rw [if_pos h1, if_pos h1, if_pos (by rw [← h1]; exact h)]
      · rw [if_neg h1, if_neg h1, if_neg (fun e => h1 (by rw [e]; exact h))]
    · rw [if_neg h]
      simp only [lookK]
      by_cases h1 : seK y.1 = K
      · rw [if_pos h1, if_pos h1, if_neg (fun e => h (by rw [h1]; exact e))]
      · rw [if_neg h1, if_neg h1, ih]
theorem hasT_ins {q : Pt} {P : List Pt} {t : Int} (hn : hasT q.1 P = false) : hasT t (insP q P) = true ↔ t = q.1 ∨ hasT t P = true := by
  have hn := hasT_not.1 hn
  rw [hasT_iff, hasT_iff]
  unfold insP
  constructor
  · rintro ⟨p, hp, rfl⟩
    rcases List.mem_append.1 hp with hp | hp
    · exact .inr ⟨p, (List.mem_filter.1 hp).1, rfl⟩
    · rcases List.mem_cons.1 hp with rfl | hp
      · exact .inl rfl
      · exact .inr ⟨p, (List.mem_filter.1 hp).1, rfl⟩
  · rintro (rfl | ⟨p, hp, rfl⟩)
    · exact ⟨q, by simp, rfl⟩
    · refine ⟨p, ?_, rfl⟩
      rw [List.mem_append, List.mem_cons, List.mem_filter, List.mem_filter]
      simp only [decide_eq_true_eq]
      rcases Int.lt_or_gt_of_ne (hn p hp) with h1 | h1
      · exact .inl ⟨hp, h1⟩
      · exact .inr (.inr ⟨hp, h1⟩)
theorem has_put {s : SeC} {q : Pt} {S : List SrP} {K : ByteArray} {t : Int} (hn : hasT q.1 (lookK (seK s) S) = false) : hasT t (lookK K (putR s q S)) = true ↔ (K = seK s ∧ t = q.1) ∨ hasT t (lookK K S) = true := by
  rw [look_put]
  by_cases h : K = seK s
  · subst h
    rw [if_pos rfl, hasT_ins hn]
    simp
  · rw [if_neg h]
    simp [h]
/-! ### How many there are -/
def totR (f u : Int) : List SrP → Nat
  | [] => 0
  | y :: r => (rangeP f u y.2).length + totR f u r
theorem allE_tot (f u : Int) : ∀ (k : Nat) (S : List SrP), (allE f u k (S.map (fun y : SrP => y.2))).length = totR f u S
  | k, [] => rfl
  | k, y :: r => by
    simp only [List.map_cons, allE, totR, List.length_append, allE_tot f u (k + 1) r]
    unfold evs
    rw [List.length_map]
theorem btE_len (f u : Int) (S : List SrP) : (btE f u (S.map (fun y : SrP => y.2))).length = totR f u S := by
  rw [(btE_perm f u _).length_eq, allE_tot]
def inR (f u t : Int) : Nat := if f < t ∧ t ≤ u then 1 else 0
theorem range_ins {f u : Int} {q : Pt} {P : List Pt} (hr : Rise P) (hn : hasT q.1 P = false) : (rangeP f u (insP q P)).length = (rangeP f u P).length + inR f u q.1 := by
  rw [ins_cut hr hn]
  conv => rhs; rw [← List.take_append_drop (cntLt q.1 (tms P)) P]
  unfold rangeP inR
  rw [List.filter_append, List.filter_append, List.length_append, List.length_append]
  by_cases h : f < q.1 ∧ q.1 ≤ u
  · rw [if_pos h, List.filter_cons_of_pos (by simpa using h), List.length_cons]; omega
  · rw [if_neg h, List.filter_cons_of_neg (by simpa using h)]; omega
theorem tot_put {f u : Int} {s : SeC} {q : Pt} : ∀ {S : List SrP}, (∀ y ∈ S, Rise y.2) → hasT q.1 (lookK (seK s) S) = false → totR f u (putR s q S) = totR f u S + inR f u q.1
  | [], _, _ => by
    simp only [putR, totR]
    rw [← insP_nil q, range_ins (P := []) (by simp [Rise]) rfl]
    simp [rangeP]
  | y :: r, hr, hn => by
    simp only [lookK] at hn
    simp only [putR]
    by_cases h : seK y.1 = seK s
    · rw [if_pos h] at hn
      rw [if_pos h]
      simp only [totR]
      rw [range_ins (hr y List.mem_cons_self) hn]
      omega
    · rw [if_neg h] at hn
      rw [if_neg h]
      simp only [totR]
      rw [tot_put (fun z hz => hr z (List.mem_cons_of_mem _ hz)) hn]
      omega
/-- Few series, few points, each in order. -/
structure Few (S : List SrP) (i : Nat) : Prop where
  len : S.length ≤ i
  pts : ∀ y ∈ S, y.2.length ≤ i
  rise : ∀ y ∈ S, Rise y.2
theorem Few.nil : Few [] 0 := ⟨Nat.le_refl _, fun _ (h : _ ∈ []) => (List.not_mem_nil h).elim, fun _ (h : _ ∈ []) => (List.not_mem_nil h).elim⟩
theorem Few.more {S : List SrP} {i j : Nat} (h : Few S i) (hij : i ≤ j) : Few S j := ⟨Nat.le_trans h.len hij, fun y hy => Nat.le_trans (h.pts y hy) hij, h.rise⟩
theorem put_each {s : SeC} {q : Pt} {R : List Pt → Prop} {R' : List Pt → Prop} (hm : ∀ P, R P → R' P) (h0 : R' [q]) : ∀ {S : List SrP}, hasT q.1 (lookK (seK s) S) = false → (∀ y ∈ S, R y.2) → (∀ P, R P → hasT q.1 P = false → R' (insP q P)) → ∀ y ∈ putR s q S, R' y.2
  | [], _, _, _ => fun y hy => by
    simp only [putR, List.mem_singleton] at hy
    subst hy; exact h0
  | z :: r, hn, hr, hi => by
    simp only [lookK] at hn
    simp only [putR]
    by_cases h : seK z.1 = seK s
    · rw [if_pos h] at hn
      rw [if_pos h]
      intro y hy
      rcases List.mem_cons.1 hy with rfl | hy
      · exact hi _ (hr z List.mem_cons_self) hn
      · exact hm _ (hr y (List.mem_cons_of_mem _ hy))
    · rw [if_neg h] at hn
      rw [if_neg h]
      intro y hy
      rcases List.mem_cons.1 hy with rfl | hy
      · exact hm _ (hr _ List.mem_cons_self)
      · exact put_each hm h0 hn (fun x hx => hr x (List.mem_cons_of_mem _ hx)) hi y hy
theorem Few.put {S : List SrP} {i : Nat} {s : SeC} {q : Pt} (h : Few S i) (hn : hasT q.1 (lookK (seK s) S) = false) : Few (putR s q S) (i + 1) where
  len := by
    have h1 := h.len
    rw [← keys_len, keys_put]
    split
    · rw [keys_len]; omega
    · rw [List.length_append, keys_len, List.length_singleton]; omega
  pts := fun y hy => (put_each (R := fun P => P.length ≤ i ∧ Rise P) (R' := fun P => P.length ≤ i + 1) (fun P h => Nat.le_succ_of_le h.1) (by simp) hn (fun y hy => ⟨h.pts y hy, h.rise y hy⟩) (fun P hP hp => by
    show (insP q P).length ≤ i + 1
    rw [ins_len hP.2 hp]; exact Nat.succ_le_succ hP.1)) y hy
  rise := fun y hy => (put_each (R := fun P => Rise P) (R' := fun P => Rise P) (fun P h => h) (by simp [Rise]) hn h.rise (fun P hP _ => ins_rise hP)) y hy
theorem look_few {S : List SrP} {i : Nat} (h : ∀ y ∈ S, y.2.length ≤ i) (K : ByteArray) : (lookK K S).length ≤ i := by
  induction S with
  | nil => exact Nat.zero_le _
  | cons y r ih =>
    simp only [lookK]
    split
    · exact h y List.mem_cons_self
    · exact ih (fun z hz => h z (List.mem_cons_of_mem _ hz))
/-- What May tells of few. -/
theorem may_few {S : List SrP} {i : Nat} {la mo : Int} {m : ByteArray} {L : List Lb} {tm : Int} (h : Few S i) (hi : i ≤ 1000) :
    mayE la mo S m L tm = if smpE m L tm ≠ 0 then smpE m L tm else if tm ≤ mkI la mo then 8 else if hasT tm (lookK (seK (m, L)) S) = true then 7 else 0 := by
  unfold mayE thereE fullE
  rw [look_pts]
  have h1 := h.len
  have h2 := look_few h.pts (seK (m, L))
  by_cases e0 : smpE m L tm ≠ 0
  · rw [if_pos e0, if_pos e0]
  rw [if_neg e0, if_neg e0]
  by_cases e1 : tm ≤ mkI la mo
  · rw [if_pos e1, if_pos e1]
  rw [if_neg e1, if_neg e1]
  by_cases e2 : hasT tm (lookK (seK (m, L)) S) = true
  · rw [if_pos e2, if_pos (by decide)]
  · rw [if_neg e2, if_neg (by decide), if_neg (by omega)]
theorem putSS_R (la mo : Int) (S : List SrP) (m : ByteArray) (L : List Lb) (tm x : Int) : putSS la mo S m L tm x = if mayE la mo S m L tm = 0 then putR (m, L) (tm, x) S else S := by
  unfold putSS
  rw [putS_R]
theorem smp_t {m : ByteArray} {L : List Lb} {tm : Int} (h : smpE m L tm = 0) : 1 ≤ tm ∧ tm ≤ 1099511627776 := by
  unfold smpE at h
  by_cases h0 : serE m L = 0
  · rw [if_pos h0] at h
    by_cases h1 : tm < 1 ∨ 1099511627776 < tm
    · rw [if_pos h1] at h; cases h
    · omega
  · rw [if_neg h0] at h; exact absurd h h0
/-! ### Who waits longer -/
structure Wid (la le mo : Int) (A B : List SrP) : Prop where
  sub : ∀ K t, hasT t (lookK K A) = true → hasT t (lookK K B) = true
  late : ∀ K t, hasT t (lookK K B) = true → hasT t (lookK K A) = true ∨ t ≤ mkI la mo
  keys : ∀ K ∈ keysS A, K ∈ keysS B
  nd : (keysS A).Nodup
  tot : totR 0 1099511627776 A ≤ totR 0 1099511627776 B
theorem Wid.nil (la le : Int) : Wid la le 0 [] [] := ⟨fun _ _ h => h, fun _ _ h => .inl h, fun _ h => h, by simp [keysS], Nat.le_refl _⟩
structure WidP (la le mo : Int) (A B : List SrP) (m : ByteArray) (L : List Lb) (tm x : Int) (i : Nat) : Prop where
  ok : mayE la mo A m L tm = 0 → mayE le mo B m L tm = 0
  arg : mayE la mo A m L tm = 2 ↔ mayE le mo B m L tm = 2
  mos : putMo le mo B m L tm = putMo la mo A m L tm
  ge : mo ≤ putMo la mo A m L tm
  wid : Wid la le (putMo la mo A m L tm) (putSS la mo A m L tm x) (putSS le mo B m L tm x)
  fewA : Few (putSS la mo A m L tm x) (i + 1)
  fewB : Few (putSS le mo B m L tm x) (i + 1)
theorem mk_le {la le mo : Int} (h1 : la ≤ le) : mkI le mo ≤ mkI la mo := by unfold mkI; omega
theorem mk_more {la mo mo' : Int} (h1 : mo ≤ mo') : mkI la mo ≤ mkI la mo' := by unfold mkI; omega
theorem Wid.put {la le mo : Int} {A B : List SrP} {m : ByteArray} {L : List Lb} {tm : Int} (x : Int) {i : Nat} (h : Wid la le mo A B) (h0 : 0 ≤ la) (h1 : la ≤ le) (hA : Few A i) (hB : Few B i) (hi : i ≤ 1000) : WidP la le mo A B m L tm x i := by
  have eA := may_few (la := la) (mo := mo) (m := m) (L := L) (tm := tm) hA hi
  have eB := may_few (la := le) (mo := mo) (m := m) (L := L) (tm := tm) hB hi
  have hmk := mk_le (mo := mo) h1
  have sA := putSS_R la mo A m L tm x
  have sB := putSS_R le mo B m L tm x
  have mA : putMo la mo A m L tm = if mayE la mo A m L tm = 0 then max mo tm else mo := rfl
  have mB : putMo le mo B m L tm = if mayE le mo B m L tm = 0 then max mo tm else mo := rfl
  by_cases e0 : smpE m L tm ≠ 0
  · rw [if_pos e0] at eA eB
    rw [eA, if_neg e0] at sA mA
    rw [eB, if_neg e0] at sB mB
    refine ⟨fun e => absurd (eA ▸ e) e0, by rw [eA, eB], by rw [mA, mB], by rw [mA]; exact Int.le_refl _, by rw [mA, sA, sB]; exact h, by rw [sA]; exact hA.more (by omega), by rw [sB]; exact hB.more (by omega)⟩
  have ez : smpE m L tm = 0 := by omega
  obtain ⟨ht1, ht2⟩ := smp_t ez
  rw [if_neg e0] at eA eB
  by_cases e1 : tm ≤ mkI la mo
  · rw [if_pos e1] at eA
    rw [eA, if_neg (by decide)] at sA mA
    have hmx : max mo tm = mo := by unfold mkI at e1; omega
    by_cases e2 : tm ≤ mkI le mo
    · rw [if_pos e2] at eB
      rw [eB, if_neg (by decide)] at sB mB
      exact ⟨fun e => by omega, by rw [eA, eB], by rw [mA, mB], by rw [mA]; exact Int.le_refl _, by rw [mA, sA, sB]; exact h, by rw [sA]; exact hA.more (by omega), by rw [sB]; exact hB.more (by omega)⟩
    rw [if_neg e2] at eB
    by_cases e3 : hasT tm (lookK (seK (m, L)) B) = true
    · rw [if_pos e3] at eB
      rw [eB, if_neg (by decide)] at sB mB
      exact ⟨fun e => by omega, by rw [eA, eB]; decide, by rw [mA, mB], by rw [mA]; exact Int.le_refl _, by rw [mA, sA, sB]; exact h, by rw [sA]; exact hA.more (by omega), by rw [sB]; exact hB.more (by omega)⟩
    · rw [if_neg e3] at eB
      rw [eB, if_pos rfl] at sB mB
      have e3 : hasT tm (lookK (seK (m, L)) B) = false := by simpa using e3
      have hp := fun K t => has_put (s := (m, L)) (q := (tm, x)) (S := B) (K := K) (t := t) e3
      refine ⟨fun e => by omega, by rw [eA, eB]; decide, by rw [mA, mB, hmx], by rw [mA]; exact Int.le_refl _, ?_, by rw [sA]; exact hA.more (by omega), by rw [sB]; exact hB.put e3⟩
      rw [mA, sA, sB]
      refine ⟨fun K t hk => (hp K t).2 (.inr (h.sub K t hk)), fun K t hk => ?_, fun K hK => keys_put_mem.2 (.inr (h.keys K hK)), h.nd, ?_⟩
      · rcases (hp K t).1 hk with ⟨_, rfl⟩ | hk
        · exact .inr e1
        · exact h.late K t hk
      · rw [tot_put hB.rise e3]
        exact Nat.le_trans h.tot (Nat.le_add_right _ _)
  rw [if_neg e1] at eA
  have e2 : ¬ tm ≤ mkI le mo := by omega
  rw [if_neg e2] at eB
  by_cases e3 : hasT tm (lookK (seK (m, L)) A) = true
  · have e4 := h.sub _ _ e3
    rw [if_pos e3] at eA
    rw [if_pos e4] at eB
    rw [eA, if_neg (by decide)] at sA mA
    rw [eB, if_neg (by decide)] at sB mB
    exact ⟨fun e => by omega, by rw [eA, eB], by rw [mA, mB], by rw [mA]; exact Int.le_refl _, by rw [mA, sA, sB]; exact h, by rw [sA]; exact hA.more (by omega), by rw [sB]; exact hB.more (by omega)⟩
  · have e4 : ¬ hasT tm (lookK (seK (m, L)) B) = true := fun e => (h.late _ _ e).elim e3 e1
    rw [if_neg e3] at eA
    rw [if_neg e4] at eB
    rw [eA, if_pos rfl] at sA mA
    rw [eB, if_pos rfl] at sB mB
    have e3 : hasT tm (lookK (seK (m, L)) A) = false := by simpa using e3
    have e4 : hasT tm (lookK (seK (m, L)) B) = false := by simpa using e4
    have hpA := fun K t => has_put (s := (m, L)) (q := (tm, x)) (S := A) (K := K) (t := t) e3
    have hpB := fun K t => has_put (s := (m, L)) (q := (tm, x)) (S := B) (K := K) (t := t) e4
    refine ⟨fun _ => eB, by rw [eA, eB], by rw [mA, mB], by rw [mA]; omega, ?_, by rw [sA]; exact hA.put e3, by rw [sB]; exact hB.put e4⟩
    rw [mA, sA, sB]
    refine ⟨fun K t hk => ?_, fun K t hk => ?_, fun K hK => ?_, keys_put_nodup h.nd, ?_⟩
    · rcases (hpA K t).1 hk with hk | hk
      · exact (hpB K t).2 (.inl hk)
      · exact (hpB K t).2 (.inr (h.sub K t hk))
    · rcases (hpB K t).1 hk with hk | hk
      · exact .inl ((hpA K t).2 (.inl hk))
      · rcases h.late K t hk with h1 | h1
        · exact .inl ((hpA K t).2 (.inr h1))
        · exact .inr (by have := mk_more (la := la) (show mo ≤ max mo tm by omega); omega)
    · rcases keys_put_mem.1 hK with e | hK
      · exact keys_put_mem.2 (.inl e)
      · exact keys_put_mem.2 (.inr (h.keys K hK))
    · rw [tot_put hA.rise e3, tot_put hB.rise e4]
      exact Nat.add_le_add_right h.tot _
theorem Wid.len {la le mo : Int} {A B : List SrP} (h : Wid la le mo A B) : A.length ≤ B.length := by
  have := nodup_sub h.nd h.keys
  rwa [keys_len, keys_len] at this
end Go.Proofs.Ytangcgfchalnaaa

/- MarkWider, walked. -/
namespace Go.Proofs.Ytangcgfchalnaaa
open Go.RowKit
section
variable {P : Program} {Φ : Phi} {ops : Array Oper}
theorem wpT_voidS (hΦ : ∀ i, Φ i = none) {E : (World → Prop) → (World → Prop) → Act → Prop} (hE : ∀ C D a, (∀ w, ¬ C w) → E C D a) : ∀ (r : List (Nat × Bool)) (C D : World → Prop) (a : Act), (∀ w, ¬ C w) → (r.all fun p => match ops[p.1]? with | some o => !p.2 || o.guard.isNone | none => false) = true → wpT Φ P ops E r C D a
  | [], C, D, a, hC, _ => hE C D a hC
  | (i, k) :: r, C, D, a, hC, h => by
    simp only [List.all_cons, Bool.and_eq_true] at h
    obtain ⟨hi, hr⟩ := h
    unfold wpT
    cases ho : ops[i]? with
    | none => rw [ho] at hi; cases hi
    | some o =>
      rw [ho] at hi
      simp only
      cases k with
      | false =>
        simp only
        refine ⟨undef, ?_, wpT_voidS hΦ hE r C D _ hC hr⟩
        unfold YQ
        cases hw : Region.wanted o (yielded ops a.tmps) with
        | true => exact .inl ⟨rfl, fun w hw => (hC w hw).elim⟩
        | false => exact .inr ⟨rfl, rfl⟩
      | true =>
        simp only [hΦ]
        have hg : o.guard = none := by simpa using hi
        refine ⟨by unfold Region.wanted; rw [hg], fun _ _ => True, fun _ _ => True, fun _ _ _ _ _ => trivial, fun _ _ _ _ _ => trivial, fun w hc => (hC w hc).elim, fun v => wpT_voidS hΦ hE r _ _ _ (fun w hw => hC w hw.1) hr⟩
variable {ts : List Value} {df : List Deferred} {r : List (Nat × Bool)} {C D : World → Prop} {i : Nat} {o : Oper} {l : List Oper} {E : (World → Prop) → (World → Prop) → Act → Prop}
/-- A step whose value is known, other steps behind it. -/
theorem wt_stepVS (hφ : ∀ i, Φ i = none) (v0 : Value) (D' : World → Prop) (hD : Stab D') (ho : nthO l i = some o) (hw : wantB l ts o.guard = true) (hr : (r.all fun p => match l.toArray[p.1]? with | some o => !p.2 || o.guard.isNone | none => false) = true) (hE : ∀ C D a, (∀ w, ¬ C w) → E C D a)
    (hl : ∀ w, C w → D w → stepRes P (stepV C D' v0) ((execOp (Act.eval { tmps := ts.toArray, defers := df }) o).run P w))
    (h : ∀ K : (World → Prop) → (World → Prop) → Act → Prop, Shut (∀ C D a, WpT Φ P l E r C D a → K C D a) → K C D' (Act.put { tmps := ts.toArray, defers := df } o.dst v0)) :
    WpT Φ P l E ((i, true) :: r) C D { tmps := ts.toArray, defers := df } := by
  refine wt_step (hφ i) (fun v _ => v = v0) (fun _ => D') (fun _ _ _ h _ => h) (fun _ => hD) ho hw (fun w hc hd => stepRes_mono (hl w hc hd) (fun v w ⟨h1, h2, h3⟩ => ⟨h2, h1, h3⟩)) (fun K hK v => ?_)
  by_cases hv : v = v0
  · subst hv
    have e : (fun w => C w ∧ v = v) = C := funext fun w => propext ⟨fun h => h.1, fun h => ⟨h, rfl⟩⟩
    rw [e]
    exact h K hK
  · exact hK _ _ _ ⟨wpT_voidS hφ hE r _ _ _ (fun w hw => hv hw.2) hr⟩
end
theorem mslen_any {w : World} {F : Nat → Prop} {i : Nat} {la mo pa : Int} {S : List SrP} {N : Nat} (hN : totR 0 1099511627776 S = N) (h : IntO i la mo pa S w F) : Calls Try.prog 11 #[iptr i] w fun e w' => ∃ A c, e = .returned (.slice A N c) ∧ Below w.heap.size w w' := by
  refine (msamples_any h rfl).mono ?_
  rintro e w1 ⟨ov, X, rfl, hX, hmap, hb⟩
  have hl : X.length = N := by
    have := congrArg List.length hmap
    rw [List.length_map, List.length_map, btE_len, hN] at this
    exact this
  obtain ⟨A, c, rfl⟩ := or_form hX.row
  exact ⟨A, c, by rw [hl], hb⟩
/-- Two intakes side by side, of which one waits longer. -/
def WidW (w0 : World) (ia ib : Nat) (la le : Int) (k : Nat) (W : World) : Prop := ∃ mo A B, LM w0 (Star (IntO ia la mo 0 A) (IntO ib le mo 0 B)) W ∧ Wid la le mo A B ∧ Few A k ∧ Few B k ∧ 0 ≤ mo ∧ mo ≤ 1099511627776
section
variable {w : World} {A : Option Addr} {n c : Nat} {la more : Int} {X : List Sm}
set_option maxHeartbeats 8000000 in
set_option maxRecDepth 100000 in
theorem mwider_any (h : RdSm w A n X) :
    Calls Try.prog 3 #[.int .i64 la, .int .i64 more, .slice A n c] w fun e w' => e = .returned (.bool true) ∧ Below w.heap.size w w' := by
  have HX := Lib.hid h
  clear h
  go_enter Try.func3, Try.ntmps3
  go_wp2_with fail
  refine (lives_any _).mono ?_
  rintro e w1 ⟨rfl, hb1⟩
  have HB1 := Lib.hid hb1
  clear hb1
  have CL := Lib.hid (lightS_any (c := c) 80 (HX.out.below HB1.out) (by decide) (P := n ≤ 80 ∧ ∀ x ∈ X, smallS x.1 x.2.1.2.2) (fun h1 h2 => ⟨by rw [← HX.out.1]; exact h1, h2⟩))
  rw [show ((80 : Nat) : Int) = 80 from rfl] at CL
  go_wp2_with fail
  refine CL.out.mono ?_
  rintro e w2 ⟨q, rfl, hq, hb2⟩
  have HB2 := Lib.hid (HB1.out.trans (hb2.mono HB1.out.size))
  have HQ := Lib.hid hq
  clear hq hb2 CL HB1
  cases q
  · go_wp2_with fail
    go_ret
    exact ⟨rfl, HB2.out⟩
  obtain ⟨hn80, hsm⟩ := HQ.out rfl
  have HSm := Lib.hid hsm
  clear hsm HQ
  by_cases g1 : la < 0
  · go_wp2_with fail
    go_ret
    exact ⟨rfl, HB2.out⟩
  by_cases g2 : more < 0
  · go_wp2_with fail
    go_ret
    exact ⟨rfl, HB2.out⟩
  by_cases g3 : (549755813888 : Int) < la
  · go_wp2_with fail
    go_ret
    exact ⟨rfl, HB2.out⟩
  by_cases g4 : (549755813888 : Int) < more
  · go_wp2_with fail
    go_ret
    exact ⟨rfl, HB2.out⟩
  obtain ⟨le, hle⟩ : ∃ le, la + more = le := ⟨_, rfl⟩
  have hwl : IntKind.i64.wrap (la + more) = le := by rw [IntKind.wrap_i64]; omega
  have HBd : Hid (0 ≤ la ∧ 0 ≤ more ∧ la ≤ 549755813888 ∧ more ≤ 549755813888 ∧ le = la + more) := Lib.hid (by omega)
  clear hle
  have C1 := Lib.hid (mnew_any (la := la) w2 (by omega) (by omega))
  go_wp2_with fail
  refine C1.out.mono ?_
  rintro e w3 ⟨ia, rfl, h1, h2⟩
  have HS1 := Lib.hid (LM.first (w0 := w) HB2.out h2 h1 (fun _ h => h))
  clear h1 h2 C1
  have C2 := Lib.hid (mnew_any (la := le) w3 (by have := HBd.out; omega) (by have := HBd.out; omega))
  clear g1 g2 g3 g4
  go_wp2_with fail
  refine C2.out.mono ?_
  rintro e w4 ⟨ib, rfl, h1, h2⟩
  have HS2 := Lib.hid (LM.more (IntO.obj _ _ _ _ _) HS1.out h2 h1 (fun _ h => h))
  clear h1 h2 C2 HS1
  have HW4 : Hid (WidW w ia ib la le 0 w4) := Lib.hid ⟨0, [], [], HS2.out, Wid.nil _ _, Few.nil, Few.nil, by omega, by omega⟩
  clear HS2
  go_wp2_with fail
  go_loopw [11, 12, 13] (fun v _ _ wr => ∃ k : Nat, v = .int .i64 (k : Int) ∧ k ≤ n ∧ Hid (WidW w ia ib la le k wr)) (fun v _ _ _ => n - (intOf v).toNat)
  case atStart => exact ⟨0, rfl, Nat.zero_le _, HW4⟩
  case round =>
    obtain ⟨k, rfl, hk, HW⟩ := hrel
    by_cases hkn : k < n
    · have hkI : (k : Int) < (n : Int) := by omega
      obtain ⟨mo, SA, SB, hLM, hWid, hfA, hfB, hm0, hm1⟩ := HW.out
      have HS0 := Lib.hid hLM
      obtain ⟨ad, rfl, hadl⟩ := HX.out.some_ (by omega)
      have hkX : k < X.length := by rw [HX.out.1]; exact hkn
      have HSx := Lib.hid (HSm.out _ (List.getElem_mem hkX))
      have HRl := Lib.hid (HX.out.2.2 _ (List.getElem_mem hkX))
      have HCs := Lib.hid (fun W (hb : Below w.heap.size w W) => (HX.out.below hb).at_ hkX)
      obtain ⟨⟨m, ⟨Al, cl, Ls⟩, tm, x⟩, hx⟩ : ∃ x, X[k] = x := ⟨_, rfl⟩
      rw [hx] at HSx HRl HCs
      simp only [lsV] at HSx HRl HCs
      have HP := Lib.hid (hWid.put (m := m) (L := Ls) (tm := tm) x HBd.out.1 (by have := HBd.out; omega) hfA hfB (by omega))
      have HFw := Lib.hid (And.intro hfA (And.intro hfB (And.intro hm0 hm1)))
      clear hLM hWid hfA hfB hm0 hm1 HW hx hkX hadl
      obtain ⟨nl, hnl⟩ : ∃ nl, Ls.length = nl := ⟨_, rfl⟩
      rw [hnl] at HCs
      have HNl := Lib.hid hnl
      clear hnl
      obtain ⟨x1, hx1⟩ : ∃ e, mayE la mo SA m Ls tm = e := ⟨_, rfl⟩
      obtain ⟨y1, hy1⟩ : ∃ e, mayE le mo SB m Ls tm = e := ⟨_, rfl⟩
      have HE1 := Lib.hid (And.intro hx1 hy1)
      clear hx1 hy1
      go_wp2_with fail
      obtain ⟨mo1, hmo1⟩ : ∃ z, putMo la mo SA m Ls tm = z := ⟨_, rfl⟩
      obtain ⟨SA1, hSA1⟩ : ∃ z, putSS la mo SA m Ls tm x = z := ⟨_, rfl⟩
      obtain ⟨SB1, hSB1⟩ : ∃ z, putSS le mo SB m Ls tm x = z := ⟨_, rfl⟩
      have hP1 := HP.out.ok
      have hP2 := HP.out.arg
      have hP3 := HP.out.mos
      have hP4 := HP.out.wid
      have hP5 := HP.out.fewA
      have hP6 := HP.out.fewB
      rw [HE1.out.1, HE1.out.2] at hP1 hP2
      rw [hmo1] at hP3
      rw [hmo1, hSA1, hSB1] at hP4
      rw [hSA1] at hP5
      rw [hSB1] at hP6
      have HPutA : Hid (∀ W F, Below w.heap.size w W → IntO ia la mo 0 SA W F → Calls Try.prog 9 #[iptr ia, .agg #[.string m, .slice Al nl cl, .int .i64 tm, .int .i64 x]] W fun e w' => e = .returned (.int .i64 x1) ∧ Goes (IntO ia la mo1 0 SA1) F W w') := Lib.hid (fun W F hb hi => by
        have := mput_any (tm := tm) (x := x) (c := cl) hi HNl.out (HRl.out.below hb) HSx.out (by have := HFw.out.1.len; omega)
        rwa [HE1.out.1, hmo1, hSA1] at this)
      have HPutB : Hid (∀ W F, Below w.heap.size w W → IntO ib le mo 0 SB W F → Calls Try.prog 9 #[iptr ib, .agg #[.string m, .slice Al nl cl, .int .i64 tm, .int .i64 x]] W fun e w' => e = .returned (.int .i64 y1) ∧ Goes (IntO ib le mo1 0 SB1) F W w') := Lib.hid (fun W F hb hi => by
        have := mput_any (tm := tm) (x := x) (c := cl) hi HNl.out (HRl.out.below hb) HSx.out (by have := HFw.out.2.1.len; omega)
        rwa [HE1.out.2, hP3, hSB1] at this)
      have HP1 := Lib.hid (And.intro hP1 hP2)
      have HP4 := Lib.hid (And.intro hP4 (And.intro hP5 hP6))
      clear hmo1 hSA1 hSB1 hP1 hP2 hP3 hP4 hP5 hP6 HP HE1 HFw
      refine wp_region_two 12 [(0, false), (1, false), (2, false), (3, false), (4, false), (6, false), (7, false), (8, false), (9, false), (10, false), (5, true), (11, true)] [] [] rfl (fun W => Below w.heap.size w W) (LM w (Star (IntO ia la mo 0 SA) (IntO ib le mo 0 SB))) (by kernel_rfl) (by kernel_rfl) (fun _ _ h hb => h.trans (hb.mono h.size)) (fun _ _ h hb => h.go (Star.obj (IntO.obj _ _ _ _ _) (IntO.obj _ _ _ _ _)) hb) (HS0.out.below.trans ((Below.refl _ _).drew.mono HS0.out.below.size)) (HS0.out.go (Star.obj (IntO.obj _ _ _ _ _) (IntO.obj _ _ _ _ _)) (Below.refl _ _).drew) ?_
      repeat (first | (refine wt_q rfl rfl ?_; apply Exists.intro; refine ⟨fun w' hw' => ?_, fun K hK => ?_⟩; (focus ((have q0 := HCs.out _ hw'; obtain ⟨c0, c1, c2, c3⟩ := q0); go_simp; first | exact quiet_value | fail)); simp only [Act.put, List.setIfInBounds_toArray, List.set_cons_zero, List.set_cons_succ]; refine hK.out _ ?_; clear hK K) | (refine wt_skip rfl rfl (fun K hK => ?_); simp only [Act.put, List.setIfInBounds_toArray, List.set_cons_zero, List.set_cons_succ]; refine hK.out _ ?_; clear hK K))
      refine wt_stepVS (fun _ => rfl) (.int .i64 x1) (LM w (Star (IntO ia la mo1 0 SA1) (IntO ib le mo 0 SB))) (fun _ _ h hb => h.go (Star.obj (IntO.obj _ _ _ _ _) (IntO.obj _ _ _ _ _)) hb) rfl rfl (by kernel_rfl) (fun _ _ _ hC w' hw => (hC w' hw).elim) (fun w' hc hd => ?_) (fun K hK => ?_)
      focus
        have HCd := Lib.hid (And.intro hc hd)
        clear hc hd
        go_simp
        refine st_enter ?_
        exact (HCd.out.2.turn1 (IntO.obj _ _ _ _ _) (fun F h => HPutA.out _ F HCd.out.1 h)).mono fun e W' ⟨h1, h2⟩ => ⟨_, h1, rfl, h2.below, h2⟩
      simp only [Act.put, List.setIfInBounds_toArray, List.set_cons_zero, List.set_cons_succ]
      refine hK.out _ _ _ ?_
      clear hK K
      refine wt_stepVS (fun _ => rfl) (.int .i64 y1) (LM w (Star (IntO ia la mo1 0 SA1) (IntO ib le mo1 0 SB1))) (fun _ _ h hb => h.go (Star.obj (IntO.obj _ _ _ _ _) (IntO.obj _ _ _ _ _)) hb) rfl rfl (by kernel_rfl) (fun _ _ _ hC w' hw => (hC w' hw).elim) (fun w' hc hd => ?_) (fun K hK => ?_)
      focus
        have HCd := Lib.hid (And.intro hc hd)
        clear hc hd
        go_simp
        refine st_enter ?_
        exact (HCd.out.2.turn2 (IntO.obj _ _ _ _ _) (fun F h => HPutB.out _ F HCd.out.1 h)).mono fun e W' ⟨h1, h2⟩ => ⟨_, h1, rfl, h2.below, h2⟩
      simp only [Act.put, List.setIfInBounds_toArray, List.set_cons_zero, List.set_cons_succ]
      refine hK.out _ _ _ ?_
      clear hK K
      refine wt_nil ?_
      rintro w8 hc8 hd8
      have HS := Lib.hid hd8
      have HIk : Hid (0 ≤ mo1 ∧ mo1 ≤ 1099511627776) := Lib.hid (by
        obtain ⟨F, ⟨F1, G1, h1, _⟩, _⟩ := hd8.mem
        exact ⟨h1.1.mo0, h1.1.mo1⟩)
      clear hc8 hd8 HS0 HPutA HPutB
      try simp only [List.drop_succ_cons, List.drop_zero]
      obtain ⟨ka, hka⟩ : ∃ z, mkI la mo1 = z := ⟨_, rfl⟩
      obtain ⟨kb, hkb⟩ : ∃ z, mkI le mo1 = z := ⟨_, rfl⟩
      have HMB := Lib.hid hkb
      have HMA := Lib.hid hka
      have HKab : Hid (kb ≤ ka ∧ (0 < kb → kb = ka - more) ∧ 0 ≤ ka ∧ 0 ≤ kb ∧ ka ≤ 1099511627776) := Lib.hid (by
        have h1 := HBd.out; have h2 := HIk.out; unfold mkI at hka hkb; omega)
      have HMk := Lib.hid HKab.out.2.1
      have hkk : ¬ ka < kb := by have := HKab.out.1; omega
      clear hka hkb
      by_cases hx0 : x1 = 0
      · have hy0 : y1 = 0 := HP1.out.1 hx0
        subst hx0 hy0
        go_wp2_with fail
        refine (HS.out.read2 (fun F h => mmark_any h)).mono ?_
        rintro e w2 ⟨rfl, hb⟩
        replace HS := Lib.hid (HS.out.go (Star.obj (IntO.obj _ _ _ _ _) (IntO.obj _ _ _ _ _)) hb)
        clear hb
        rw [HMB.out]
        go_wp2_with fail
        refine (HS.out.read1 (fun F h => mmark_any h)).mono ?_
        rintro e w2 ⟨rfl, hb⟩
        replace HS := Lib.hid (HS.out.go (Star.obj (IntO.obj _ _ _ _ _) (IntO.obj _ _ _ _ _)) hb)
        clear hb
        rw [HMA.out]
        by_cases hbz : 0 < kb
        · go_wp2_with fail
          refine (HS.out.read2 (fun F h => mmark_any h)).mono ?_
          rintro e w2 ⟨rfl, hb⟩
          replace HS := Lib.hid (HS.out.go (Star.obj (IntO.obj _ _ _ _ _) (IntO.obj _ _ _ _ _)) hb)
          clear hb
          rw [HMB.out]
          have hwk : IntKind.i64.wrap (ka - more) = kb := by rw [IntKind.wrap_i64]; have := HBd.out; have := HKab.out; have := HMk.out hbz; omega
          go_wp2_with fail
          refine (HS.out.read2 (fun F h => mmark_any h)).mono ?_
          rintro e w2 ⟨rfl, hb⟩
          replace HS := Lib.hid (HS.out.go (Star.obj (IntO.obj _ _ _ _ _) (IntO.obj _ _ _ _ _)) hb)
          clear hb
          rw [HMB.out]
          go_wp2_with fail
          refine (HS.out.read1 (fun F h => mmark_any h)).mono ?_
          rintro e w2 ⟨rfl, hb⟩
          replace HS := Lib.hid (HS.out.go (Star.obj (IntO.obj _ _ _ _ _) (IntO.obj _ _ _ _ _)) hb)
          clear hb
          rw [HMA.out]
          have hw : IntKind.i64.wrap ((k : Int) + 1) = ((k + 1 : Nat) : Int) := by rw [IntKind.wrap_i64]; omega
          go_wp2_with fail
          go_roundw
          case rel => exact ⟨k + 1, by go_num, by omega, Lib.hid ⟨mo1, SA1, SB1, HS.out, HP4.out.1, HP4.out.2.1, HP4.out.2.2, HIk.out.1, HIk.out.2⟩⟩
          case measure => simp [intOf]; omega
        · go_wp2_with fail
          refine (HS.out.read2 (fun F h => mmark_any h)).mono ?_
          rintro e w2 ⟨rfl, hb⟩
          replace HS := Lib.hid (HS.out.go (Star.obj (IntO.obj _ _ _ _ _) (IntO.obj _ _ _ _ _)) hb)
          clear hb
          rw [HMB.out]
          have hw : IntKind.i64.wrap ((k : Int) + 1) = ((k + 1 : Nat) : Int) := by rw [IntKind.wrap_i64]; omega
          go_wp2_with fail
          go_roundw
          case rel => exact ⟨k + 1, by go_num, by omega, Lib.hid ⟨mo1, SA1, SB1, HS.out, HP4.out.1, HP4.out.2.1, HP4.out.2.2, HIk.out.1, HIk.out.2⟩⟩
          case measure => simp [intOf]; omega
      by_cases hx2 : x1 = 2
      · have hy2 : y1 = 2 := HP1.out.2.1 hx2
        subst hx2 hy2
        clear hx0
        go_wp2_with fail
        refine (HS.out.read2 (fun F h => mmark_any h)).mono ?_
        rintro e w2 ⟨rfl, hb⟩
        replace HS := Lib.hid (HS.out.go (Star.obj (IntO.obj _ _ _ _ _) (IntO.obj _ _ _ _ _)) hb)
        clear hb
        rw [HMB.out]
        go_wp2_with fail
        refine (HS.out.read1 (fun F h => mmark_any h)).mono ?_
        rintro e w2 ⟨rfl, hb⟩
        replace HS := Lib.hid (HS.out.go (Star.obj (IntO.obj _ _ _ _ _) (IntO.obj _ _ _ _ _)) hb)
        clear hb
        rw [HMA.out]
        by_cases hbz : 0 < kb
        · go_wp2_with fail
          refine (HS.out.read2 (fun F h => mmark_any h)).mono ?_
          rintro e w2 ⟨rfl, hb⟩
          replace HS := Lib.hid (HS.out.go (Star.obj (IntO.obj _ _ _ _ _) (IntO.obj _ _ _ _ _)) hb)
          clear hb
          rw [HMB.out]
          have hwk : IntKind.i64.wrap (ka - more) = kb := by rw [IntKind.wrap_i64]; have := HBd.out; have := HKab.out; have := HMk.out hbz; omega
          go_wp2_with fail
          refine (HS.out.read2 (fun F h => mmark_any h)).mono ?_
          rintro e w2 ⟨rfl, hb⟩
          replace HS := Lib.hid (HS.out.go (Star.obj (IntO.obj _ _ _ _ _) (IntO.obj _ _ _ _ _)) hb)
          clear hb
          rw [HMB.out]
          go_wp2_with fail
          refine (HS.out.read1 (fun F h => mmark_any h)).mono ?_
          rintro e w2 ⟨rfl, hb⟩
          replace HS := Lib.hid (HS.out.go (Star.obj (IntO.obj _ _ _ _ _) (IntO.obj _ _ _ _ _)) hb)
          clear hb
          rw [HMA.out]
          have hw : IntKind.i64.wrap ((k : Int) + 1) = ((k + 1 : Nat) : Int) := by rw [IntKind.wrap_i64]; omega
          go_wp2_with fail
          go_roundw
          case rel => exact ⟨k + 1, by go_num, by omega, Lib.hid ⟨mo1, SA1, SB1, HS.out, HP4.out.1, HP4.out.2.1, HP4.out.2.2, HIk.out.1, HIk.out.2⟩⟩
          case measure => simp [intOf]; omega
        · go_wp2_with fail
          refine (HS.out.read2 (fun F h => mmark_any h)).mono ?_
          rintro e w2 ⟨rfl, hb⟩
          replace HS := Lib.hid (HS.out.go (Star.obj (IntO.obj _ _ _ _ _) (IntO.obj _ _ _ _ _)) hb)
          clear hb
          rw [HMB.out]
          have hw : IntKind.i64.wrap ((k : Int) + 1) = ((k + 1 : Nat) : Int) := by rw [IntKind.wrap_i64]; omega
          go_wp2_with fail
          go_roundw
          case rel => exact ⟨k + 1, by go_num, by omega, Lib.hid ⟨mo1, SA1, SB1, HS.out, HP4.out.1, HP4.out.2.1, HP4.out.2.2, HIk.out.1, HIk.out.2⟩⟩
          case measure => simp [intOf]; omega
      have hy2 : ¬ y1 = 2 := fun e => hx2 (HP1.out.2.2 e)
      have q2 : (x1 == 2) = false := by simp [hx2]
      have q3 : (y1 == 2) = false := by simp [hy2]
      go_wp2_with fail
      refine (HS.out.read2 (fun F h => mmark_any h)).mono ?_
      rintro e w2 ⟨rfl, hb⟩
      replace HS := Lib.hid (HS.out.go (Star.obj (IntO.obj _ _ _ _ _) (IntO.obj _ _ _ _ _)) hb)
      clear hb
      rw [HMB.out]
      go_wp2_with fail
      refine (HS.out.read1 (fun F h => mmark_any h)).mono ?_
      rintro e w2 ⟨rfl, hb⟩
      replace HS := Lib.hid (HS.out.go (Star.obj (IntO.obj _ _ _ _ _) (IntO.obj _ _ _ _ _)) hb)
      clear hb
      rw [HMA.out]
      by_cases hbz : 0 < kb
      · go_wp2_with fail
        refine (HS.out.read2 (fun F h => mmark_any h)).mono ?_
        rintro e w2 ⟨rfl, hb⟩
        replace HS := Lib.hid (HS.out.go (Star.obj (IntO.obj _ _ _ _ _) (IntO.obj _ _ _ _ _)) hb)
        clear hb
        rw [HMB.out]
        have hwk : IntKind.i64.wrap (ka - more) = kb := by rw [IntKind.wrap_i64]; have := HBd.out; have := HKab.out; have := HMk.out hbz; omega
        go_wp2_with fail
        refine (HS.out.read2 (fun F h => mmark_any h)).mono ?_
        rintro e w2 ⟨rfl, hb⟩
        replace HS := Lib.hid (HS.out.go (Star.obj (IntO.obj _ _ _ _ _) (IntO.obj _ _ _ _ _)) hb)
        clear hb
        rw [HMB.out]
        go_wp2_with fail
        refine (HS.out.read1 (fun F h => mmark_any h)).mono ?_
        rintro e w2 ⟨rfl, hb⟩
        replace HS := Lib.hid (HS.out.go (Star.obj (IntO.obj _ _ _ _ _) (IntO.obj _ _ _ _ _)) hb)
        clear hb
        rw [HMA.out]
        have hw : IntKind.i64.wrap ((k : Int) + 1) = ((k + 1 : Nat) : Int) := by rw [IntKind.wrap_i64]; omega
        go_wp2_with fail
        go_roundw
        case rel => exact ⟨k + 1, by go_num, by omega, Lib.hid ⟨mo1, SA1, SB1, HS.out, HP4.out.1, HP4.out.2.1, HP4.out.2.2, HIk.out.1, HIk.out.2⟩⟩
        case measure => simp [intOf]; omega
      · go_wp2_with fail
        refine (HS.out.read2 (fun F h => mmark_any h)).mono ?_
        rintro e w2 ⟨rfl, hb⟩
        replace HS := Lib.hid (HS.out.go (Star.obj (IntO.obj _ _ _ _ _) (IntO.obj _ _ _ _ _)) hb)
        clear hb
        rw [HMB.out]
        have hw : IntKind.i64.wrap ((k : Int) + 1) = ((k + 1 : Nat) : Int) := by rw [IntKind.wrap_i64]; omega
        go_wp2_with fail
        go_roundw
        case rel => exact ⟨k + 1, by go_num, by omega, Lib.hid ⟨mo1, SA1, SB1, HS.out, HP4.out.1, HP4.out.2.1, HP4.out.2.2, HIk.out.1, HIk.out.2⟩⟩
        case measure => simp [intOf]; omega
    · obtain rfl : k = n := by omega
      have hkI : ¬ (k : Int) < (k : Int) := by omega
      obtain ⟨mo, SA, SB, hLM, hWid, hfA, hfB, hm0, hm1⟩ := HW.out
      have HS := Lib.hid hLM
      obtain ⟨na, hna⟩ : ∃ N, totR 0 1099511627776 SA = N := ⟨_, rfl⟩
      obtain ⟨nb, hnb⟩ : ∃ N, totR 0 1099511627776 SB = N := ⟨_, rfl⟩
      obtain ⟨qa, hqa⟩ : ∃ N, SA.length = N := ⟨_, rfl⟩
      obtain ⟨qb, hqb⟩ : ∃ N, SB.length = N := ⟨_, rfl⟩
      have HN := Lib.hid (And.intro hna (And.intro hnb (And.intro hqa hqb)))
      have h1 := hWid.tot
      rw [hna, hnb] at h1
      have h2 := hWid.len
      rw [hqa, hqb] at h2
      have d1 : decide (na ≤ nb) = true := decide_eq_true h1
      have d2 : decide (qa ≤ qb) = true := decide_eq_true h2
      clear hna hnb hqa hqb h1 h2 hLM hWid hfA hfB hm0 hm1 HW
      go_wp2_with fail
      refine (HS.out.read1 (fun F h => mslen_any HN.out.1 h)).mono ?_
      rintro e w2 ⟨A1, c1, rfl, hb⟩
      replace HS := Lib.hid (HS.out.go (Star.obj (IntO.obj _ _ _ _ _) (IntO.obj _ _ _ _ _)) hb)
      clear hb
      go_wp2_with fail
      refine (HS.out.read2 (fun F h => mslen_any HN.out.2.1 h)).mono ?_
      rintro e w2 ⟨A2, c2, rfl, hb⟩
      replace HS := Lib.hid (HS.out.go (Star.obj (IntO.obj _ _ _ _ _) (IntO.obj _ _ _ _ _)) hb)
      clear hb
      go_wp2_with fail
      refine (HS.out.read1 (fun F h => mseries_any HN.out.2.2.1 h)).mono ?_
      rintro e w2 ⟨rfl, hb⟩
      replace HS := Lib.hid (HS.out.go (Star.obj (IntO.obj _ _ _ _ _) (IntO.obj _ _ _ _ _)) hb)
      clear hb
      go_wp2_with fail
      refine (HS.out.read2 (fun F h => mseries_any HN.out.2.2.2 h)).mono ?_
      rintro e w2 ⟨rfl, hb⟩
      replace HS := Lib.hid (HS.out.go (Star.obj (IntO.obj _ _ _ _ _) (IntO.obj _ _ _ _ _)) hb)
      clear hb
      go_wp2_with fail
      go_ret
      exact ⟨rfl, HS.out.below⟩
end
end Go.Proofs.Ytangcgfchalnaaa
