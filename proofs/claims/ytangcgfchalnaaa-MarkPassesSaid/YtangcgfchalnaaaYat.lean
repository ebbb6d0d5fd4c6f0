/- Parts of the proof: MkM MkC. -/
import Derived.Test.YtangcgfchalnaaaYas
/- mark: May. -/
namespace Go.Proofs.Ytangcgfchalnaaa
open Go.RowKit Go.MapKept
/-- What each check tells. -/
def chkE (la mo : Int) (S : List SrP) (m : ByteArray) (L : List Lb) (tm : Int) : Nat → Int
  | 0 => smpE m L tm
  | 1 => if tm ≤ mkI la mo then 8 else 0
  | 2 => thereE (idK (seK (m, L)) (S.map (·.1))) tm S
  | _ => fullE (idK (seK (m, L)) (S.map (·.1))) S
/-- What May tells. -/
def mayE (la mo : Int) (S : List SrP) (m : ByteArray) (L : List Lb) (tm : Int) : Int :=
  if smpE m L tm ≠ 0 then smpE m L tm else if tm ≤ mkI la mo then 8 else
    if thereE (idK (seK (m, L)) (S.map (·.1))) tm S ≠ 0 then thereE (idK (seK (m, L)) (S.map (·.1))) tm S else fullE (idK (seK (m, L)) (S.map (·.1))) S
structure OkTo (la mo : Int) (S : List SrP) (m : ByteArray) (L : List Lb) (tm : Int) (k : Nat) : Prop where
  all : ∀ j, j < k → chkE la mo S m L tm j = 0
theorem OkTo.next {la mo : Int} {S : List SrP} {m : ByteArray} {L : List Lb} {tm : Int} {k : Nat} (h : OkTo la mo S m L tm k) (hz : chkE la mo S m L tm k = 0) : OkTo la mo S m L tm (k + 1) :=
  ⟨fun j hj => by
    rcases Nat.lt_or_eq_of_le (Nat.le_of_lt_succ hj) with h1 | h1
    · exact h.all j h1
    · rw [h1]; exact hz⟩
theorem OkTo.stop {la mo : Int} {S : List SrP} {m : ByteArray} {L : List Lb} {tm : Int} {k : Nat} (h : OkTo la mo S m L tm k) (hz : chkE la mo S m L tm k ≠ 0) (hk : k < 4) : chkE la mo S m L tm k = mayE la mo S m L tm := by
  symm
  unfold mayE
  have h0 := fun hk : 0 < k => h.all 0 hk
  have h1 := fun hk : 1 < k => h.all 1 hk
  have h2 := fun hk : 2 < k => h.all 2 hk
  simp only [chkE] at h0 h1 h2
  obtain rfl | rfl | rfl | rfl : k = 0 ∨ k = 1 ∨ k = 2 ∨ k = 3 := by omega
  · simp only [chkE] at hz ⊢
    rw [if_pos hz]
  · simp only [chkE] at hz ⊢
    have e0 : ¬ smpE m L tm ≠ 0 := fun e => e (h0 (by omega))
    rw [if_neg e0]
    by_cases hle : tm ≤ mkI la mo
    · rw [if_pos hle, if_pos hle]
    · rw [if_neg hle] at hz; exact absurd rfl hz
  · simp only [chkE] at hz ⊢
    have e0 : ¬ smpE m L tm ≠ 0 := fun e => e (h0 (by omega))
    rw [if_neg e0]
    by_cases hle : tm ≤ mkI la mo
    · have := h1 (by omega); rw [if_pos hle] at this; omega
    · rw [if_neg hle, if_pos hz]
  · simp only [chkE] at hz ⊢
    have e0 : ¬ smpE m L tm ≠ 0 := fun e => e (h0 (by omega))
    have e2 : ¬ thereE (idK (seK (m, L)) (S.map (·.1))) tm S ≠ 0 := fun e => e (h2 (by omega))
    rw [if_neg e0]
    by_cases hle : tm ≤ mkI la mo
    · have := h1 (by omega); rw [if_pos hle] at this; omega
    · rw [if_neg hle, if_neg e2]
theorem OkTo.fin {la mo : Int} {S : List SrP} {m : ByteArray} {L : List Lb} {tm : Int} (h : OkTo la mo S m L tm 4) : mayE la mo S m L tm = 0 := by
  unfold mayE
  have h0 := h.all 0 (by omega)
  have h1 := h.all 1 (by omega)
  have h2 := h.all 2 (by omega)
  have h3 := h.all 3 (by omega)
  simp only [chkE] at h0 h1 h2 h3
  rw [if_neg (fun e => e h0), if_neg, if_neg (fun e => e h2), h3]
  intro hle
  rw [if_pos hle] at h1
  omega
theorem smpE_ser {m : ByteArray} {L : List Lb} {tm : Int} (h : smpE m L tm = 0) : serE m L = 0 := by
  unfold smpE at h
  by_cases h0 : serE m L = 0
  · exact h0
  · rw [if_neg h0] at h; exact h
section
variable {w : World} {F : Nat → Prop} {own : Nat → Nat} {i t n c : Nat} {la mo pa : Int} {v : Value} {bs : List Nat} {S : List SrP} {m : ByteArray} {A : Option Addr} {L : List Lb} {tm x : Int}
set_option maxHeartbeats 4000000 in
set_option maxRecDepth 100000 in
theorem mmay_any (h : IntO i la mo pa S w F) (hn : L.length = n) (hr : RdLb w A L) (hS : smallS m L) :
    Calls Try.prog 21 #[iptr i, .agg #[.string m, .slice A n c, .int .i64 tm, .int .i64 x]] w fun e w' => e = .returned (.int .i64 (mayE la mo S m L tm)) ∧ Below w.heap.size w w' := by
  obtain ⟨hk, own, t, v, bs, h⟩ := h
  have CR := Lib.hid (fun W (hb : Below w.heap.size w W) => mright_any (h.below hb))
  have HI := Lib.hid (fun W (hb : Below w.heap.size w W) => h.below hb)
  have HR := Lib.hid (fun W (hb : Below w.heap.size w W) => hr.below hb)
  have HP := Lib.hid (And.intro hk (And.intro hn hS))
  obtain ⟨E, hE⟩ : ∃ E, mayE la mo S m L tm = E := ⟨_, rfl⟩
  rw [hE]
  have HE := Lib.hid hE
  clear h hk hn hr hS hE
  have HX0 := Lib.hid (newB w (.cells #[iptr i] 25))
  have HX1 := Lib.hid (newB (w.alloc (.cells #[iptr i] 25)) (.cells #[.string m, .slice A n c, .int .i64 tm, .int .i64 x] 34))
  rw [alloc_size] at HX1
  have HX01 := Lib.hid (keepA HX0.out (.cells #[.string m, .slice A n c, .int .i64 tm, .int .i64 x] 34))
  have HB := Lib.hid (below_alloc (below_alloc (Below.refl w.heap.size w) (.cells #[iptr i] 25)) (.cells #[.string m, .slice A n c, .int .i64 tm, .int .i64 x] 34))
  have k0 := cellAt (o := 0) (v := iptr i) HX01.out rfl
  go_enter Try.func21, Try.ntmps21
  go_wp2_with fail
  refine (CR.out _ HB.out).mono ?_
  rintro e w1 ⟨rfl, rfl⟩
  have HXr := Lib.hid (newB ((w.alloc (.cells #[iptr i] 25)).alloc (.cells #[.string m, .slice A n c, .int .i64 tm, .int .i64 x] 34)) (.cells #[.func (.func 37) #[] #[.pointer (some ⟨w.heap.size + 1, 0, none⟩)], .func (.func 39) #[] #[.pointer (some ⟨w.heap.size + 1, 0, none⟩), .pointer (some ⟨w.heap.size, 0, none⟩)], .func (.func 40) #[] #[.pointer (some ⟨w.heap.size, 0, none⟩), .pointer (some ⟨w.heap.size + 1, 0, none⟩)], .func (.func 43) #[] #[.pointer (some ⟨w.heap.size, 0, none⟩), .pointer (some ⟨w.heap.size + 1, 0, none⟩)]] 71))
  rw [alloc_size, alloc_size] at HXr
  have HB0 := Lib.hid (below_alloc HB.out (.cells #[.func (.func 37) #[] #[.pointer (some ⟨w.heap.size + 1, 0, none⟩)], .func (.func 39) #[] #[.pointer (some ⟨w.heap.size + 1, 0, none⟩), .pointer (some ⟨w.heap.size, 0, none⟩)], .func (.func 40) #[] #[.pointer (some ⟨w.heap.size, 0, none⟩), .pointer (some ⟨w.heap.size + 1, 0, none⟩)], .func (.func 43) #[] #[.pointer (some ⟨w.heap.size, 0, none⟩), .pointer (some ⟨w.heap.size + 1, 0, none⟩)]] 71))
  have HX11 := Lib.hid (keepA HX1.out (.cells #[.func (.func 37) #[] #[.pointer (some ⟨w.heap.size + 1, 0, none⟩)], .func (.func 39) #[] #[.pointer (some ⟨w.heap.size + 1, 0, none⟩), .pointer (some ⟨w.heap.size, 0, none⟩)], .func (.func 40) #[] #[.pointer (some ⟨w.heap.size, 0, none⟩), .pointer (some ⟨w.heap.size + 1, 0, none⟩)], .func (.func 43) #[] #[.pointer (some ⟨w.heap.size, 0, none⟩), .pointer (some ⟨w.heap.size + 1, 0, none⟩)]] 71))
  have HX02 := Lib.hid (keepA HX01.out (.cells #[.func (.func 37) #[] #[.pointer (some ⟨w.heap.size + 1, 0, none⟩)], .func (.func 39) #[] #[.pointer (some ⟨w.heap.size + 1, 0, none⟩), .pointer (some ⟨w.heap.size, 0, none⟩)], .func (.func 40) #[] #[.pointer (some ⟨w.heap.size, 0, none⟩), .pointer (some ⟨w.heap.size + 1, 0, none⟩)], .func (.func 43) #[] #[.pointer (some ⟨w.heap.size, 0, none⟩), .pointer (some ⟨w.heap.size + 1, 0, none⟩)]] 71))
  obtain ⟨W0, hW0⟩ : ∃ W, ((w.alloc (.cells #[iptr i] 25)).alloc (.cells #[.string m, .slice A n c, .int .i64 tm, .int .i64 x] 34)).alloc (.cells #[.func (.func 37) #[] #[.pointer (some ⟨w.heap.size + 1, 0, none⟩)], .func (.func 39) #[] #[.pointer (some ⟨w.heap.size + 1, 0, none⟩), .pointer (some ⟨w.heap.size, 0, none⟩)], .func (.func 40) #[] #[.pointer (some ⟨w.heap.size, 0, none⟩), .pointer (some ⟨w.heap.size + 1, 0, none⟩)], .func (.func 43) #[] #[.pointer (some ⟨w.heap.size, 0, none⟩), .pointer (some ⟨w.heap.size + 1, 0, none⟩)]] 71) = W := ⟨_, rfl⟩
  rw [hW0] at HXr HB0 HX11 HX02
  clear k0 HX0 HX1 HX01
  go_wp2_with fail
  clear hW0
  go_loopw [19] (fun v wr => ∃ k : Nat, v = .int .i64 (k : Int) ∧ k ≤ 4 ∧ Hid (OkTo la mo S m L tm k) ∧ Hid (Below W0.heap.size W0 wr)) (fun v _ => 4 - (intOf v).toNat)
  case atStart => exact ⟨0, rfl, by omega, Lib.hid ⟨fun j hj => by omega⟩, Lib.hid (Below.refl _ _)⟩
  case round =>
    obtain ⟨k, rfl, hk, hok, HB⟩ := hrel
    have HBw := Lib.hid (HB0.out.trans (HB.out.mono HB0.out.size))
    have HY1 := Lib.hid (keepB HX11.out HB.out)
    have HY0 := Lib.hid (keepB HX02.out HB.out)
    have HYr := Lib.hid (keepB HXr.out HB.out)
    obtain rfl | rfl | rfl | rfl | rfl : k = 0 ∨ k = 1 ∨ k = 2 ∨ k = 3 ∨ k = 4 := by omega
    · have q0 := cellAt (o := 0) HYr.out rfl
      have CC := Lib.hid (may1_any HY1.out HP.out.2.1 (HR.out _ HBw.out))
      have HO := Lib.hid hok.out
      clear hok
      go_wp2_with fail
      refine (CC.out).mono ?_
      rintro e w2 ⟨rfl, hb2⟩
      have HB2 := Lib.hid (HB.out.trans (hb2.mono HB.out.size))
      clear hb2 q0
      by_cases hz : (smpE m L tm) = 0
      · rw [hz]
        go_wp2_with fail
        go_roundw
        case rel => exact ⟨1, by go_num, by omega, Lib.hid (HO.out.next hz), HB2⟩
        case measure => simp [intOf]
      · have hE : (smpE m L tm) = E := (HO.out.stop hz (by omega)).trans HE.out
        clear HO
        obtain ⟨ee, hee⟩ : ∃ ee, (smpE m L tm) = ee := ⟨_, rfl⟩
        rw [hee] at hz hE ⊢
        have hzb : decide (ee = 0) = false := decide_eq_false hz
        subst hE
        clear hee HE
        go_wp2_with fail
        go_ret
        exact ⟨rfl, HB0.out.trans (HB2.out.mono HB0.out.size)⟩
    · have q0 := cellAt (o := 1) HYr.out rfl
      have CC := Lib.hid (may2_any (HI.out _ HBw.out) HP.out.1 HY1.out HY0.out)
      have HO := Lib.hid hok.out
      clear hok
      go_wp2_with fail
      refine (CC.out).mono ?_
      rintro e w2 ⟨rfl, hb2⟩
      have HB2 := Lib.hid (HB.out.trans (hb2.mono HB.out.size))
      clear hb2 q0
      by_cases hz : (if tm ≤ mkI la mo then (8 : Int) else 0) = 0
      · rw [hz]
        go_wp2_with fail
        go_roundw
        case rel => exact ⟨2, by go_num, by omega, Lib.hid (HO.out.next hz), HB2⟩
        case measure => simp [intOf]
      · have hE : (if tm ≤ mkI la mo then (8 : Int) else 0) = E := (HO.out.stop hz (by omega)).trans HE.out
        clear HO
        obtain ⟨ee, hee⟩ : ∃ ee, (if tm ≤ mkI la mo then (8 : Int) else 0) = ee := ⟨_, rfl⟩
        rw [hee] at hz hE ⊢
        have hzb : decide (ee = 0) = false := decide_eq_false hz
        subst hE
        clear hee HE
        go_wp2_with fail
        go_ret
        exact ⟨rfl, HB0.out.trans (HB2.out.mono HB0.out.size)⟩
    · have q0 := cellAt (o := 2) HYr.out rfl
      have CC := Lib.hid (may3_any (HI.out _ HBw.out) HP.out.1 HP.out.2.1 (HR.out _ HBw.out) (smpE_ser (hok.out.all 0 (by omega))) HP.out.2.2 rfl HY1.out HY0.out)
      have HO := Lib.hid hok.out
      clear hok
      go_wp2_with fail
      refine (CC.out).mono ?_
      rintro e w2 ⟨rfl, hb2⟩
      have HB2 := Lib.hid (HB.out.trans (hb2.mono HB.out.size))
      clear hb2 q0
      by_cases hz : (thereE (idK (seK (m, L)) (S.map (·.1))) tm S) = 0
      · rw [hz]
        go_wp2_with fail
        go_roundw
        case rel => exact ⟨3, by go_num, by omega, Lib.hid (HO.out.next hz), HB2⟩
        case measure => simp [intOf]
      · have hE : (thereE (idK (seK (m, L)) (S.map (·.1))) tm S) = E := (HO.out.stop hz (by omega)).trans HE.out
        clear HO
        obtain ⟨ee, hee⟩ : ∃ ee, (thereE (idK (seK (m, L)) (S.map (·.1))) tm S) = ee := ⟨_, rfl⟩
        rw [hee] at hz hE ⊢
        have hzb : decide (ee = 0) = false := decide_eq_false hz
        subst hE
        clear hee HE
        go_wp2_with fail
        go_ret
        exact ⟨rfl, HB0.out.trans (HB2.out.mono HB0.out.size)⟩
    · have q0 := cellAt (o := 3) HYr.out rfl
      have CC := Lib.hid (may4_any (HI.out _ HBw.out) HP.out.1 HP.out.2.1 (HR.out _ HBw.out) (smpE_ser (hok.out.all 0 (by omega))) HP.out.2.2 rfl HY1.out HY0.out)
      have HO := Lib.hid hok.out
      clear hok
      go_wp2_with fail
      refine (CC.out).mono ?_
      rintro e w2 ⟨rfl, hb2⟩
      have HB2 := Lib.hid (HB.out.trans (hb2.mono HB.out.size))
      clear hb2 q0
      by_cases hz : (fullE (idK (seK (m, L)) (S.map (·.1))) S) = 0
      · rw [hz]
        go_wp2_with fail
        go_roundw
        case rel => exact ⟨4, by go_num, by omega, Lib.hid (HO.out.next hz), HB2⟩
        case measure => simp [intOf]
      · have hE : (fullE (idK (seK (m, L)) (S.map (·.1))) S) = E := (HO.out.stop hz (by omega)).trans HE.out
        clear HO
        obtain ⟨ee, hee⟩ : ∃ ee, (fullE (idK (seK (m, L)) (S.map (·.1))) S) = ee := ⟨_, rfl⟩
        rw [hee] at hz hE ⊢
        have hzb : decide (ee = 0) = false := decide_eq_false hz
        subst hE
        clear hee HE
        go_wp2_with fail
        go_ret
        exact ⟨rfl, HB0.out.trans (HB2.out.mono HB0.out.size)⟩
    · have e : E = 0 := by rw [← HE.out, hok.out.fin]
      subst e
      go_wp2_with fail
      go_ret
      exact ⟨rfl, HBw.out⟩
end
end Go.Proofs.Ytangcgfchalnaaa

/- mark: an intake in parts; what turns of it. -/
namespace Go.Proofs.Ytangcgfchalnaaa
open Go.RowKit Go.MapKept
/-- An intake whose table and buffers need not agree. -/
structure IntD (w : World) (F : Nat → Prop) (own : Nat → Nat) (i : Nat) (la mo pa : Int) (t : Nat) (v : Value) (bs : List Nat) (X : List SeC) (Q : List (List Pt)) : Prop where
  inF : F i
  oi : own i = 0
  box : w.heap[i]? = some (ikC la mo pa t v)
  tab : TabO t X w (fun k => F k ∧ own k = 1)
  row : RowAt w (fun k => F k ∧ own k = 2) 63 1 v bs.length (bs.map bptr)
  len : bs.length = Q.length
  buf : ∀ k (h : k < bs.length) (h' : k < Q.length), BufO bs[k] Q[k] 0 w (fun j => F j ∧ own j = k + 3)
theorem RowAt.mine {w : World} {F : Nat → Prop} {e : TypeId} {size n : Nat} {v : Value} {xs : List Value} (h : RowAt w F e size v n xs) : RowAt w (fun k => F k ∧ v.ownBlock = some k) e size v n xs :=
  ⟨h.1, h.2.imp id fun ⟨g, o, c, cur, h1, h2, h3, h4⟩ => ⟨g, o, c, cur, h1, ⟨h2, by rw [h1]; rfl⟩, h3, h4⟩⟩
theorem moved {A : Ob} {w w' : World} {F : Nat → Prop} {own : Nat → Nat} {c d : Nat} (hA : Obj1 A) (h : A w (fun k => F k ∧ own k = c)) (ho : Only (fun k => F k ∧ own k = d) w w') (hcd : c ≠ d) : A w' (fun k => (F k ∨ w.heap.size ≤ k) ∧ (if w.heap.size ≤ k then d else own k) = c) :=
  hA.weak (hA.keep (hA.old h) ho (fun _ hk _ hd => hcd (hk.1.2.symm.trans hd.2))) (fun k _ hk => ⟨.inl hk.1.1, by rw [if_neg (by have := hk.2; omega)]; exact hk.1.2⟩)
theorem turned {A : Ob} {w w' : World} {F : Nat → Prop} {own : Nat → Nat} {d : Nat} (hA : Obj1 A) (hg : Goes A (fun k => F k ∧ own k = d) w w') : A w' (fun k => (F k ∨ w.heap.size ≤ k) ∧ (if w.heap.size ≤ k then d else own k) = d) := by
  obtain ⟨F', g1, g2, g3⟩ := hg
  refine hA.weak g1 (fun k _ hk => ?_)
  rcases (g2 k hk).1 with h | h
  · exact ⟨.inl h.1, by split; rfl; exact h.2⟩
  · exact ⟨.inr h, if_pos h⟩
section
variable {w w' : World} {F : Nat → Prop} {own : Nat → Nat} {i t j b : Nat} {la mo pa mo' pa' : Int} {v v' : Value} {bs : List Nat} {X X' : List SeC} {Q : List (List Pt)} {P' : List Pt} {S : List SrP}
theorem IntC.d (h : IntC w F own i la mo pa t v bs S) : IntD w F own i la mo pa t v bs (S.map (·.1)) (S.map (·.2)) where
  inF := h.inF
  oi := h.oi
  box := h.box
  tab := h.tab
  row := h.row
  len := by rw [h.len, List.length_map]
  buf := fun k h1 h2 => by rw [List.getElem_map]; exact h.buf k h1 (by rw [List.length_map] at h2; exact h2)
theorem IntD.c (h : IntD w F own i la mo pa t v bs X Q) (hX : S.map (·.1) = X) (hQ : S.map (·.2) = Q) : IntC w F own i la mo pa t v bs S where
  inF := h.inF
  oi := h.oi
  box := h.box
  tab := by rw [hX]; exact h.tab
  row := h.row
  len := by rw [h.len, ← hQ, List.length_map]
  buf := fun k h1 h2 => by
    have := h.buf k h1 (by rw [← hQ, List.length_map]; exact h2)
    subst hQ
    rw [List.getElem_map] at this
    exact this
theorem IntD.below (h : IntD w F own i la mo pa t v bs X Q) (hb : Below w.heap.size w w') : IntD w' F own i la mo pa t v bs X Q where
  inF := h.inF
  oi := h.oi
  box := keepB h.box hb
  tab := (TabO.obj _ _).below h.tab hb
  row := h.row.below hb
  len := h.len
  buf := fun k h1 h2 => (BufO.obj _ _ _).below (h.buf k h1 h2) hb
theorem IntD.turnTab (h : IntD w F own i la mo pa t v bs X Q) (hg : Goes (TabO t X') (fun k => F k ∧ own k = 1) w w') : IntD w' (fun k => F k ∨ w.heap.size ≤ k) (fun k => if w.heap.size ≤ k then 1 else own k) i la mo pa t v bs X' Q := by
  obtain ⟨F', g1, g2, g3⟩ := id hg
  exact {
    inF := .inl h.inF
    oi := by rw [if_neg (by have := only_lt h.box; omega)]; exact h.oi
    box := g3.get h.box (fun e => by have := h.oi; omega)
    tab := turned (TabO.obj _ _) hg
    row := moved (RowO.obj _ _ _ _ _) h.row g3 (by omega)
    len := h.len
    buf := fun k h1 h2 => moved (BufO.obj _ _ _) (h.buf k h1 h2) g3 (by omega) }
theorem IntD.turnBuf (h : IntD w F own i la mo pa t v bs X Q) (hj : j < bs.length) (hg : Goes (BufO bs[j] P' 0) (fun k => F k ∧ own k = j + 3) w w') : IntD w' (fun k => F k ∨ w.heap.size ≤ k) (fun k => if w.heap.size ≤ k then j + 3 else own k) i la mo pa t v bs X (Q.set j P') := by
  obtain ⟨F', g1, g2, g3⟩ := id hg
  exact {
    inF := .inl h.inF
    oi := by rw [if_neg (by have := only_lt h.box; omega)]; exact h.oi
    box := g3.get h.box (fun e => by have := h.oi; omega)
    tab := moved (TabO.obj _ _) h.tab g3 (by omega)
    row := moved (RowO.obj _ _ _ _ _) h.row g3 (by omega)
    len := by rw [List.length_set]; exact h.len
    buf := fun k h1 h2 => by
      by_cases hk : k = j
      · subst hk
        rw [List.getElem_set_self]
        exact turned (BufO.obj _ _ _) hg
      · rw [List.getElem_set_ne (fun e => hk e.symm)]
        exact moved (BufO.obj _ _ _) (h.buf k h1 (by rw [List.length_set] at h2; exact h2)) g3 (by omega) }
theorem IntD.boxed (h : IntD w F own i la mo pa t v bs X Q) (ho : Only (fun k => k = i) w w') (hbox : w'.heap[i]? = some (ikC la mo' pa' t v)) : IntD w' F own i la mo' pa' t v bs X Q where
  inF := h.inF
  oi := h.oi
  box := hbox
  tab := (TabO.obj _ _).keep h.tab ho (fun k hk _ e => by have e : k = i := e; have := hk.2; rw [e, h.oi] at this; omega)
  row := h.row.keep ho (fun k hk _ e => by have e : k = i := e; have := hk.2; rw [e, h.oi] at this; omega)
  len := h.len
  buf := fun k h1 h2 => (BufO.obj _ _ _).keep (h.buf k h1 h2) ho (fun k hk _ e => by have e : k = i := e; have := hk.2; rw [e, h.oi] at this; omega)
/-- One more buffer. -/
theorem IntD.pushed (h : IntD w F own i la mo pa t v bs X Q) (ho : Only (fun k => (F k ∧ own k = 2) ∨ k = i) w w') (hbox : w'.heap[i]? = some (ikC la mo pa t v'))
    (hrow : RowAt w' (fun k => (F k ∧ own k = 2) ∨ w.heap.size ≤ k) 63 1 v' (bs.length + 1) ((bs ++ [b]).map bptr)) (hbuf : BufO b [] 0 w' (fun k => w.heap.size ≤ k ∧ v'.ownBlock ≠ some k)) :
    IntD w' (fun k => F k ∨ w.heap.size ≤ k) (fun k => if w.heap.size ≤ k then (if v'.ownBlock = some k then 2 else bs.length + 3) else own k) i la mo pa t v' (bs ++ [b]) X (Q ++ [[]]) := by
  have keep : ∀ {A : Ob} {c : Nat}, Obj1 A → A w (fun k => F k ∧ own k = c) → c ≠ 2 → c ≠ 0 → A w' (fun k => (F k ∨ w.heap.size ≤ k) ∧ (if w.heap.size ≤ k then (if v'.ownBlock = some k then 2 else bs.length + 3) else own k) = c) := by
    intro A c hA ha h2 h0
    refine hA.weak (hA.keep (hA.old ha) ho (fun k hk _ e => ?_)) (fun k _ hk => ⟨.inl hk.1.1, by rw [if_neg (by have := hk.2; omega)]; exact hk.1.2⟩)
    rcases e with e | e
    · exact h2 (hk.1.2.symm.trans e.2)
    · rw [e, h.oi] at hk; exact h0 hk.1.2.symm
  exact {
    inF := .inl h.inF
    oi := by rw [if_neg (by have := only_lt h.box; omega)]; exact h.oi
    box := hbox
    tab := keep (TabO.obj _ _) h.tab (by omega) (by omega)
    row := by
      rw [List.length_append, List.length_singleton]
      refine hrow.mine.weak (fun k _ hk => ?_)
      by_cases hs : w.heap.size ≤ k
      · exact ⟨.inr hs, by rw [if_pos hs, if_pos hk.2]⟩
      · have := hk.1.resolve_right hs
        exact ⟨.inl this.1, by rw [if_neg hs]; exact this.2⟩
    len := by rw [List.length_append, List.length_append, h.len]; rfl
    buf := fun k h1 h2 => by
      by_cases hk : k < bs.length
      · have hk' : k < Q.length := by rw [← h.len]; exact hk
        rw [List.getElem_append_left hk, List.getElem_append_left hk']
        exact keep (BufO.obj _ _ _) (h.buf k hk hk') (by omega) (by omega)
      · have e : k = bs.length := by rw [List.length_append, List.length_singleton] at h1; omega
        subst e
        have e2 : (Q ++ [[]])[bs.length]'h2 = [] := by
          rw [List.getElem_append_right (by rw [h.len]; exact Nat.le_refl _)]; simp
        rw [e2, List.getElem_append_right (Nat.le_refl _)]
        simp only [Nat.sub_self, List.getElem_cons_zero]
        exact (BufO.obj _ _ _).weak hbuf (fun k _ hk => ⟨.inr hk.1, by rw [if_pos hk.1, if_neg hk.2]⟩) }
theorem IntD.row_cell (h : IntD w F own i la mo pa t v bs X Q) {j : Nat} (hj : j < bs.length) : ∃ ad c, v = .slice (some ad) bs.length c ∧ w.cell? (ad.add j) = some (bptr bs[j]) := by
  obtain ⟨A, c, hv, _, _, hr, _, _⟩ := h.row.form
  obtain ⟨ad, rfl, _, hc⟩ := hr.2 (by omega)
  exact ⟨ad, c, hv, hc j _ (by simp [hj])⟩
end
/-! ### What Put leaves -/
def putS (k : Nat) (S : List SrP) (s : SeC) (q : Pt) : List SrP := if k = 0 then S ++ [(s, [q])] else S.modify (k - 1) (fun y => (y.1, insP q y.2))
def putSS (la mo : Int) (S : List SrP) (m : ByteArray) (L : List Lb) (tm x : Int) : List SrP := if mayE la mo S m L tm = 0 then putS (idK (seK (m, L)) (S.map (·.1))) S (m, L) (tm, x) else S
def putMo (la mo : Int) (S : List SrP) (m : ByteArray) (L : List Lb) (tm : Int) : Int := if mayE la mo S m L tm = 0 then max mo tm else mo
theorem insP_nil (q : Pt) : insP q [] = [q] := rfl
theorem putS_fst {S : List SrP} {s : SeC} {q : Pt} {k : Nat} (hk : idK (seK s) (S.map (·.1)) = k) : (putS k S s q).map (·.1) = putT (S.map (·.1)) s := by
  unfold putS putT
  rw [hk]
  by_cases h0 : k = 0
  · rw [if_pos h0, if_pos h0]; simp
  · rw [if_neg h0, if_neg h0]
    apply List.ext_getElem
    · simp
    · intro n h1 h2
      simp only [List.getElem_map, List.getElem_modify]
      split <;> rfl
theorem putS_snd0 {S : List SrP} {s : SeC} {q : Pt} : (putS 0 S s q).map (fun y : SrP => y.2) = ((S.map (fun y : SrP => y.2)) ++ [[]]).set S.length (insP q []) := by
  unfold putS
  rw [if_pos rfl, insP_nil]
  rw [List.set_append_right _ _ (by simp)]
  simp
theorem putS_snd {S : List SrP} {s : SeC} {q : Pt} {j : Nat} (hj : j < (S.map (·.2)).length) : (putS (j + 1) S s q).map (·.2) = (S.map (·.2)).set j (insP q (S.map (·.2))[j]) := by
  unfold putS
  rw [if_neg (by omega), Nat.add_sub_cancel]
  apply List.ext_getElem
  · simp
  · intro n h1 h2
    simp only [List.getElem_map, List.getElem_modify, List.getElem_set]
    split
    · subst_vars; rfl
    · rfl
/-- What is known when May says yes. -/
structure MayOk (la mo : Int) (S : List SrP) (m : ByteArray) (L : List Lb) (tm : Int) (k : Nat) : Prop where
  ser : serE m L = 0
  t1 : 1 ≤ tm
  t2 : tm ≤ 1099511627776
  mark : mkI la mo < tm
  no : hasT tm (ptsS k S) = false
  full : (ptsS k S).length ≠ 65536
theorem mayOk {la mo : Int} {S : List SrP} {m : ByteArray} {L : List Lb} {tm : Int} {k : Nat} (hk : idK (seK (m, L)) (S.map (·.1)) = k) (h : mayE la mo S m L tm = 0) : MayOk la mo S m L tm k := by
  unfold mayE at h
  rw [hk] at h
  have h0 : smpE m L tm = 0 := by
    by_cases e : smpE m L tm = 0
    · exact e
    · rw [if_pos e] at h; exact h
  have e0 : ¬ smpE m L tm ≠ 0 := fun e => e h0
  rw [if_neg e0] at h
  have h1 : ¬ tm ≤ mkI la mo := fun e => by rw [if_pos e] at h; omega
  rw [if_neg h1] at h
  have h2 : thereE k tm S = 0 := by
    by_cases e : thereE k tm S = 0
    · exact e
    · rw [if_pos e] at h; exact h
  have e2 : ¬ thereE k tm S ≠ 0 := fun e => e h2
  rw [if_neg e2] at h
  have hs := smpE_ser h0
  unfold smpE at h0
  rw [if_pos hs] at h0
  have ht : ¬ (tm < 1 ∨ 1099511627776 < tm) := fun e => by rw [if_pos e] at h0; omega
  refine ⟨hs, by omega, by omega, by omega, ?_, ?_⟩
  · unfold thereE at h2
    cases hh : hasT tm (ptsS k S) with
    | false => rfl
    | true => rw [if_pos hh] at h2; omega
  · unfold fullE at h
    intro e
    rw [if_pos (.inr e)] at h
    omega
end Go.Proofs.Ytangcgfchalnaaa
