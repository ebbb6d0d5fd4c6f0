/- queue.own: an item in memory of its own. -/
import Derived.Test.YtjnkcgegmffncaaItk
namespace Go.Proofs.Ytjnkcgegmffncaa
open Go.RowKit
/-- A cell of a row of the call's own is stored. -/
theorem or_set {w : World} {base g c n size : Nat} {e : TypeId} {xs : List Value} (h : w.ownsRow base e size (.slice (some ⟨g, 0, none⟩) n c) n xs) (j : Nat) (u : Value) : (w.setCell ⟨g, j, none⟩ u).ownsRow base e size (.slice (some ⟨g, 0, none⟩) n c) n (xs.set j u) := by
  refine ⟨by rw [List.length_set]; exact h.1, ?_⟩
  rcases h.2 with ⟨h1, _⟩ | ⟨g', cap, cur, h1, h2, h3, h4, h5, h6, h7⟩
  · cases h1
  · cases h1
    refine .inr ⟨g, c, cur.setIfInBounds j u, rfl, h2, setCell_get h3, h4, h5, by simpa using h6, ?_⟩
    rw [← h7, Array.toList_setIfInBounds, List.take_set]
theorem or_kept {w w' : World} {base : Nat} {e : TypeId} {size : Nat} {v : Value} {n : Nat} {xs : List Value} (h : w.ownsRow base e size v n xs) (hk : ∀ g, v.ownBlock = some g → w'.heap[g]? = w.heap[g]?) : w'.ownsRow base e size v n xs :=
  ⟨h.1, h.2.imp id fun ⟨g, cap, cur, h1, h2, h3, h4⟩ => ⟨g, cap, cur, h1, h2, (hk g (by rw [h1]; rfl)).trans h3, h4⟩⟩
theorem rowF_set {α : Type} {f : α → List Value} {s : Nat} (hs : ∀ x, (f x).length = s) (y : α) {i : Nat} {u : Value} : ∀ (L : List α) (k : Nat) (h : k < L.length), i < s → f y = (f L[k]).set i u → rowF f (L.set k y) = (rowF f L).set (k * s + i) u
  | x :: r, 0, _, hi, he => by
    simp only [List.set_cons_zero, rowF, Nat.zero_mul, Nat.zero_add, List.getElem_cons_zero] at he ⊢
    rw [List.set_append_left _ _ (by rw [hs]; exact hi), he]
  | x :: r, k + 1, h, hi, he => by
    simp only [List.set_cons_succ, rowF]
    rw [rowF_set hs y r k (by simpa using h) hi (by simpa using he), List.set_append_right _ _ (by rw [hs, Nat.add_mul]; omega), hs]
    congr 2
    rw [Nat.add_mul]; omega
/-- An item, as it lies. -/
abbrev Cl := Option Addr × Nat × List Cg
abbrev It := Int × ByteArray × Ls × Int × Int × Int × Int × Cl
/-- What it is. -/
def itC (x : It) : ItC := (x.1, x.2.1, x.2.2.1.2.2, x.2.2.2.1, x.2.2.2.2.1, x.2.2.2.2.2.1, x.2.2.2.2.2.2.1, x.2.2.2.2.2.2.2.2.2.map cgC)
abbrev itc (x : It) : List Value := [.int .i64 x.1, .string x.2.1, lsV x.2.2.1, .int .i64 x.2.2.2.1, .int .i64 x.2.2.2.2.1, .int .i64 x.2.2.2.2.2.1, .int .i64 x.2.2.2.2.2.2.1, .slice x.2.2.2.2.2.2.2.1 x.2.2.2.2.2.2.2.2.2.length x.2.2.2.2.2.2.2.2.1]
/-- Its labels and changes lie in memory of F. -/
structure ItIn (w : World) (F : Nat → Prop) (la : Option Addr) (L : List Lb) (ca : Option Addr) (C : List Cg) : Prop where
  lab : RdLb w la L
  chg : RdCg w ca C.length C
  labF : 0 < L.length → ∀ ad, la = some ad → F ad.block ∧ ad.block < w.heap.size
  chgF : 0 < C.length → ∀ ad, ca = some ad → F ad.block ∧ ad.block < w.heap.size
  eltF : ∀ x ∈ C, 0 < x.1.2.2.length → ∀ ad, x.1.1 = some ad → F ad.block ∧ ad.block < w.heap.size
/-- A row that is not empty is kept where its block is. -/
theorem reads_keep {w w' : World} {S : Nat → Prop} {size n : Nat} {A : Option Addr} {xs : List Value} (h : Only S w w') (hr : Reads w w.heap.size size A n xs) (hn : 0 < n → ∀ ad, A = some ad → ¬ S ad.block) : Reads w' w'.heap.size size A n xs :=
  ⟨hr.1, fun h0 => by
    obtain ⟨ad, e, hb, hc⟩ := hr.2 h0
    exact ⟨ad, e, Nat.lt_of_lt_of_le hb h.size, fun j u hu => (h.cell (by rw [block_of_add]; exact hb) (by rw [block_of_add]; exact hn h0 ad e)).trans (hc j u hu)⟩⟩
theorem ItIn.keep {w w' : World} {F S : Nat → Prop} {la ca : Option Addr} {L : List Lb} {C : List Cg} (h : ItIn w F la L ca C) (ho : Only S w w') (hn : ∀ k, F k → k < w.heap.size → ¬ S k) : ItIn w' F la L ca C where
  lab := reads_keep ho h.lab (fun h0 ad e => hn _ (h.labF h0 ad e).1 (h.labF h0 ad e).2)
  chg := ⟨h.chg.1, reads_keep ho h.chg.2.1 (fun h0 ad e => hn _ (h.chgF h0 ad e).1 (h.chgF h0 ad e).2), fun x hx => reads_keep ho (h.chg.2.2 x hx) (fun h0 ad e => hn _ (h.eltF x hx h0 ad e).1 (h.eltF x hx h0 ad e).2)⟩
  labF := fun h0 ad e => ⟨(h.labF h0 ad e).1, Nat.lt_of_lt_of_le (h.labF h0 ad e).2 ho.size⟩
  chgF := fun h0 ad e => ⟨(h.chgF h0 ad e).1, Nat.lt_of_lt_of_le (h.chgF h0 ad e).2 ho.size⟩
  eltF := fun x hx h0 ad e => ⟨(h.eltF x hx h0 ad e).1, Nat.lt_of_lt_of_le (h.eltF x hx h0 ad e).2 ho.size⟩
theorem ItIn.below {w w' : World} {F : Nat → Prop} {la ca : Option Addr} {L : List Lb} {C : List Cg} (h : ItIn w F la L ca C) (hb : Below w.heap.size w w') : ItIn w' F la L ca C := h.keep (S := fun _ => False) (Only.of_below hb) (fun _ _ _ h => h)
theorem ItIn.weak {w : World} {F G : Nat → Prop} {la ca : Option Addr} {L : List Lb} {C : List Cg} (h : ItIn w F la L ca C) (hG : ∀ k, k < w.heap.size → F k → G k) : ItIn w G la L ca C where
  lab := h.lab
  chg := h.chg
  labF := fun h0 ad e => ⟨hG _ (h.labF h0 ad e).2 (h.labF h0 ad e).1, (h.labF h0 ad e).2⟩
  chgF := fun h0 ad e => ⟨hG _ (h.chgF h0 ad e).2 (h.chgF h0 ad e).1, (h.chgF h0 ad e).2⟩
  eltF := fun x hx h0 ad e => ⟨hG _ (h.eltF x hx h0 ad e).2 (h.eltF x hx h0 ad e).1, (h.eltF x hx h0 ad e).2⟩
/-- What own has done when it has cloned k changes' labels. -/
structure OwS (w0 : World) (b : Nat) (X Z : Array Value) (g ln lc cn cc : Nat) (la ca : Option Addr) (L : List Lb) (C P : List Cg) (k : Nat) (w : World) : Prop where
  below : Below w0.heap.size w0 w
  b0 : b = w0.heap.size
  box : w.heap[b]? = some (.cells X 38 (0, 0))
  res : w.heap[b + 1]? = some (.cells Z 38 (0, 0))
  lab : w.ownsRow (b + 2) 76 2 (.slice la ln lc) ln (lbF L)
  row : w.ownsRow (b + 2) 71 4 (.slice ca cn cc) cn (chF P)
  llen : L.length = ln
  len : P.length = cn
  con : P.map cgC = C.map cgC
  gr : ∀ ad, ca = some ad → ad = ⟨g, 0, none⟩
  labne : ∀ ad, la = some ad → ad.block ≠ g
  old : ∀ j, k ≤ j → P[j]? = C[j]?
  new : ∀ j, j < k → ∀ x, P[j]? = some x → RdLs w x.1 ∧ ∀ ad, x.1.1 = some ad → b + 2 ≤ ad.block ∧ g ≠ ad.block ∧ ad.block < w.heap.size
section
variable {w0 w w' : World} {b g ln lc cn cc k : Nat} {X Z : Array Value} {la ca : Option Addr} {L : List Lb} {C P : List Cg}
theorem OwS.go (h : OwS w0 b X Z g ln lc cn cc la ca L C P k w) (hb : Below w.heap.size w w') : OwS w0 b X Z g ln lc cn cc la ca L C P k w' where
  below := h.below.trans (hb.mono h.below.size)
  b0 := h.b0
  box := keepB h.box hb
  res := keepB h.res hb
  lab := or_below h.lab hb
  row := or_below h.row hb
  llen := h.llen
  len := h.len
  con := h.con
  gr := h.gr
  labne := h.labne
  old := h.old
  new := fun j hj x hx => ⟨(h.new j hj x hx).1.below hb, fun ad e => by have := (h.new j hj x hx).2 ad e; have := hb.size; omega⟩
theorem OwS.step (h : OwS w0 b X Z g ln lc cn cc la ca L C P k w) (hb : Below w.heap.size w w') {A : Option Addr} {m c : Nat} {xl : List Lb} {xa : Option Addr} {xc : Nat} {r : Int × Bool × Bool} (hk : k < cn) (hx : P[k]? = some ((xa, xc, xl), r)) (hm : xl.length = m)
    (hr : w'.ownsRow w.heap.size 76 2 (.slice A m c) m (lbF xl)) (hca : ca = some ⟨g, 0, none⟩) : OwS w0 b X Z g ln lc cn cc la ca L C (P.set k ((A, c, xl), r)) (k + 1) (w'.setCell ⟨g, k * 4, none⟩ (.slice A m c)) := by
  have h' := h.go hb
  have hO := Only.set w' g (k * 4) (.slice A m c)
  have hkP : k < P.length := by rw [h.len]; exact hk
  have hPk : P[k] = ((xa, xc, xl), r) := by rw [List.getElem?_eq_getElem hkP] at hx; exact Option.some.inj hx
  have hgl := h'.row.lt g (by rw [hca]; rfl)
  have hgw := h.row.lt g (by rw [hca]; rfl)
  have hbb := h'.b0
  refine ⟨h'.below.setCell (by show w0.heap.size ≤ g; omega) _, h.b0, hO.get h'.box (by omega), hO.get h'.res (by omega), or_kept h'.lab (fun g' hg' => hO.block g' (h'.lab.lt g' hg').2 ?_), ?_, h.llen, by rw [List.length_set]; exact h.len, ?_, h.gr, h.labne, ?_, ?_⟩
  · cases la with
    | none => cases hg'
    | some ad => cases hg'; exact h.labne ad rfl
  · have := h'.row
    rw [hca] at this ⊢
    have e := rowF_set (f := chc) (s := 4) (fun _ => rfl) ((A, c, xl), r) (i := 0) (u := .slice A m c) P k hkP (by decide) (by rw [hPk, ← hm]; rfl)
    rw [Nat.add_zero] at e
    show World.ownsRow _ _ _ _ _ _ (rowF chc _)
    rw [e]
    exact or_set this _ _
  · rw [← h.con, List.map_set]
    have : cgC ((A, c, xl), r) = (P.map cgC)[k]'(by simpa using hkP) := by simp [hPk, cgC]
    rw [this, List.set_getElem_self]
  · intro j hj
    rw [List.getElem?_set_ne (by omega)]
    exact h.old j (by omega)
  · intro j hj x hx2
    by_cases hjk : j = k
    · subst hjk
      rw [List.getElem?_set_self hkP] at hx2
      cases hx2
      have h2 : Reads w' w'.heap.size 2 A m (lbF xl) := Reads.of_own hr
      have h4 : ∀ ad, A = some ad → w.heap.size ≤ ad.block ∧ ad.block < w'.heap.size := fun ad e => hr.lt ad.block (by rw [e]; rfl)
      refine ⟨?_, fun ad e => ?_⟩
      · have h5 : RdLb w' A xl := by unfold RdLb; rw [hm]; exact h2
        exact hO.reads h5 (fun ad e => by have := h4 ad e; omega)
      · have := h4 ad e
        have := h.below.size
        have hs := hO.size
        have hr2 := only_lt h.res
        refine ⟨by omega, by omega, by omega⟩
    · rw [List.getElem?_set_ne (by omega)] at hx2
      obtain ⟨n1, n2⟩ := h'.new j (by omega) x hx2
      exact ⟨hO.reads n1 (fun ad e => by have := (n2 ad e).2.1; omega), fun ad e => by have := n2 ad e; have := hO.size; omega⟩
/-- At the end. -/
theorem OwS.done (h : OwS w0 b X Z g ln lc cn cc la ca L C P cn w) (ho : Only (fun i => i = b + 1) w w') : ItIn w' (fun i => w0.heap.size ≤ i) la L ca P := by
  have hb := h.b0
  have hl : RdLb w la L := by unfold RdLb; rw [h.llen]; exact Reads.of_own h.lab
  have hc : Reads w w.heap.size 4 ca P.length (rowF chc P) := by rw [h.len]; exact Reads.of_own h.row
  have hle : ∀ x ∈ P, RdLs w x.1 ∧ ∀ ad, x.1.1 = some ad → b + 2 ≤ ad.block ∧ g ≠ ad.block ∧ ad.block < w.heap.size := fun x hx => by
    obtain ⟨j, hj, rfl⟩ := List.mem_iff_getElem.1 hx
    exact h.new j (by rw [← h.len]; exact hj) _ (List.getElem?_eq_getElem hj)
  have e1 : ∀ ad, la = some ad → b + 2 ≤ ad.block ∧ ad.block < w.heap.size := fun ad e => h.lab.lt ad.block (by rw [e]; rfl)
  have e2 : ∀ ad, ca = some ad → b + 2 ≤ ad.block ∧ ad.block < w.heap.size := fun ad e => h.row.lt ad.block (by rw [e]; rfl)
  have hs := ho.size
  refine ⟨ho.reads hl (fun ad e => by have := e1 ad e; omega), ⟨rfl, ho.reads hc (fun ad e => by have := e2 ad e; omega), fun x hx => ho.reads (hle x hx).1 (fun ad e => by have := (hle x hx).2 ad e; omega)⟩, fun _ ad e => by have := e1 ad e; exact ⟨by omega, by omega⟩, fun _ ad e => by have := e2 ad e; exact ⟨by omega, by omega⟩, fun x hx _ ad e => by have := (hle x hx).2 ad e; exact ⟨by omega, by omega⟩⟩
end
theorem or_head {w : World} {base n c size : Nat} {e : TypeId} {a : Option Addr} {xs : List Value} (h : w.ownsRow base e size (.slice a n c) n xs) : ∃ g, (∀ ad, a = some ad → ad = ⟨g, 0, none⟩) ∧ (g = 0 ∨ base ≤ g) := by
  rcases h.2 with ⟨h1, _⟩ | ⟨g, cap, cur, h1, h2, _⟩
  · cases h1; exact ⟨0, fun _ e => by (cases e), .inl rfl⟩
  · cases h1; exact ⟨g, fun _ e => (Option.some.inj e).symm, .inr h2⟩
theorem row_own {α : Type} {f : α → List Value} {s : Nat} (hs : ∀ x, (f x).length = s) {w : World} {base g n c : Nat} {e : TypeId} {L : List α} (h : w.ownsRow base e s (.slice (some ⟨g, 0, none⟩) n c) n (rowF f L)) {k : Nat} (hk : k < L.length) (i : Nat) (hi : i < s) {u : Value} (hu : (f L[k])[i]? = some u) : w.cell? ⟨g, k * s + i, none⟩ = some u :=
  or_cell h (by rw [rowF_get hs L k hk i hi]; exact hu)
theorem Triv.stab : Stab Triv := fun _ _ _ _ => triv _
/-- What own returns. -/
def Owned (k : Int) (m : ByteArray) (L : List Lb) (t n tm bt : Int) (C : List Cg) (ln cn : Nat) (w : World) (e : Ending) (w' : World) : Prop :=
  ∃ la lc ca cc P, e = .returned (.agg #[.int .i64 k, .string m, .slice la ln lc, .int .i64 t, .int .i64 n, .int .i64 tm, .int .i64 bt, .slice ca cn cc]) ∧ P.length = cn ∧ P.map cgC = C.map cgC ∧ ItIn w' (fun i => w.heap.size ≤ i) la L ca P ∧ Below w.heap.size w w'
/-- A row of labels, just made. -/
def FrL (B m : Nat) (L : List Lb) (v : Value) (W : World) : Prop := ∃ A c, v = .slice A m c ∧ W.ownsRow B 76 2 (.slice A m c) m (lbF L)
theorem FrL.stab (B m : Nat) (L : List Lb) (v : Value) : Stab (FrL B m L v) := fun _ _ ⟨A, c, h1, h2⟩ hb => ⟨A, c, h1, or_below h2 hb⟩
set_option maxHeartbeats 8000000 in
set_option maxRecDepth 100000 in
theorem own_any {k t n tm bt : Int} {m : ByteArray} {la ca : Option Addr} {ln lc cn cc : Nat} {L : List Lb} {C : List Cg} {w : World} (hn : L.length = ln) (h : RdLb w la L) (g : RdCg w ca cn C) (hl1 : ln ≤ 1000000) (hl2 : cn ≤ 1000000) (hl3 : ∀ x ∈ C, x.1.2.2.length ≤ 1000000) :
    Calls Try.prog 22 #[.agg #[.int .i64 k, .string m, .slice la ln lc, .int .i64 t, .int .i64 n, .int .i64 tm, .int .i64 bt, .slice ca cn cc]] w (Owned k m L t n tm bt C ln cn w) := by
  have HB := Lib.hid (below_alloc (below_alloc (Below.refl w.heap.size w) (.cells #[.int .i64 k, .string m, .slice la ln lc, .int .i64 t, .int .i64 n, .int .i64 tm, .int .i64 bt, .slice ca cn cc] 38)) (.cells #[.int .i64 0, .string ⟨#[]⟩, .slice none 0 0, .int .i64 0, .int .i64 0, .int .i64 0, .int .i64 0, .slice none 0 0] 38))
  have HX := Lib.hid (keepA (newB w (.cells #[.int .i64 k, .string m, .slice la ln lc, .int .i64 t, .int .i64 n, .int .i64 tm, .int .i64 bt, .slice ca cn cc] 38)) (.cells #[.int .i64 0, .string ⟨#[]⟩, .slice none 0 0, .int .i64 0, .int .i64 0, .int .i64 0, .int .i64 0, .slice none 0 0] 38))
  have HZ := Lib.hid (newB (w.alloc (.cells #[.int .i64 k, .string m, .slice la ln lc, .int .i64 t, .int .i64 n, .int .i64 tm, .int .i64 bt, .slice ca cn cc] 38)) (.cells #[.int .i64 0, .string ⟨#[]⟩, .slice none 0 0, .int .i64 0, .int .i64 0, .int .i64 0, .int .i64 0, .slice none 0 0] 38))
  rw [alloc_size] at HZ
  have CL := Lib.hid (fun W (hb : Below w.heap.size w W) => clone_lbs (c := lc) hn (by have := h.below hb; unfold RdLb at this; rw [hn] at this; exact this) hl1)
  have CC := Lib.hid (fun W (hb : Below w.heap.size w W) => clone_chs (c := cc) g.1 (g.below hb).2.1 hl2)
  have HN := Lib.hid hn
  have HG := Lib.hid g
  have HL3 := Lib.hid hl3
  obtain ⟨b, hb⟩ : ∃ b, w.heap.size = b := ⟨_, rfl⟩
  have HBe := Lib.hid hb
  rw [hb] at HX HZ
  clear hn h g hl1 hl3
  go_enter Try.func22, Try.ntmps22
  have d2 := cellAt (o := 2) HX.out rfl
  have d7 := cellAt (o := 7) HX.out rfl
  go_wp2_with fail
  refine (CL.out _ HB.out).mono ?_
  rintro e w1 ⟨v, rfl, hr, hb1⟩
  obtain ⟨la', lc', rfl⟩ := or_form hr
  have HB1 := Lib.hid (HB.out.trans (hb1.mono HB.out.size))
  have HX1 := Lib.hid (keepB HX.out hb1)
  have HZ1 := Lib.hid (keepB HZ.out hb1)
  have HLab : Hid (w1.ownsRow (b + 2) 76 2 (.slice la' ln lc') ln (lbF L)) := Lib.hid (by rw [alloc_size, alloc_size, hb] at hr; exact hr)
  have f2 := freeAt 2 HX1.out
  have e2 := cellAt (o := 2) (v := .slice la ln lc) HX1.out rfl
  have HX2 := Lib.hid (setCell_get (o := 2) (u := .slice la' ln lc') HX1.out)
  have d7 := cellAt (o := 7) (v := .slice ca cn cc) HX2.out rfl
  have HO2 := Lib.hid (Only.set w1 b 2 (.slice la' ln lc'))
  clear hr hb1 d2 CL HX HZ
  go_wp2_with fail
  clear d7 f2 e2
  obtain ⟨w2, hw2⟩ : ∃ w2, w1.setCell ⟨b, 2, none⟩ (.slice la' ln lc') = w2 := ⟨_, rfl⟩
  rw [hw2] at HX2 HO2 ⊢
  clear hw2
  have HB2 := Lib.hid (HB1.out.trans (HO2.out.below (B := w.heap.size) (fun k e => by omega) HB1.out.size))
  have HZ2 := Lib.hid (HO2.out.get HZ1.out (by omega))
  have HLab2 := Lib.hid (or_kept HLab.out (fun g' hg' => HO2.out.block g' (HLab.out.lt g' hg').2 (by have := (HLab.out.lt g' hg').1; omega)))
  have HSz := Lib.hid (HO2.out.size)
  have HLlt := Lib.hid (fun ad (e : la' = some ad) => HLab.out.lt ad.block (by rw [e]; rfl))
  clear HB1 HX1 HZ1 HLab HO2
  refine (CC.out _ HB2.out).mono ?_
  rintro e w3 ⟨v, rfl, hr, hb3⟩
  obtain ⟨ca', cc', rfl⟩ := or_form hr
  obtain ⟨g, hg1, hg2⟩ := or_head hr
  have HB3 := Lib.hid (HB2.out.trans (hb3.mono HB2.out.size))
  have HX3 := Lib.hid (keepB HX2.out hb3)
  have HZ3 := Lib.hid (keepB HZ2.out hb3)
  have HLab3 := Lib.hid (or_below HLab2.out hb3)
  have HRow3 : Hid (w3.ownsRow (b + 2) 71 4 (.slice ca' cn cc') cn (chF C)) := Lib.hid (or_base hr (by have := only_lt HZ2.out; omega))
  have f7 := freeAt 7 HX3.out
  have HX4 := Lib.hid (setCell_get (o := 7) (u := .slice ca' cn cc') HX3.out)
  have d7 := cellAt (o := 7) (v := .slice ca cn cc) HX3.out rfl
  have HO4 := Lib.hid (Only.set w3 b 7 (.slice ca' cn cc'))
  have HS : Hid (OwS w b #[.int .i64 k, .string m, .slice la' ln lc', .int .i64 t, .int .i64 n, .int .i64 tm, .int .i64 bt, .slice ca' cn cc'] #[.int .i64 0, .string ⟨#[]⟩, .slice none 0 0, .int .i64 0, .int .i64 0, .int .i64 0, .int .i64 0, .slice none 0 0] g ln lc' cn cc' la' ca' L C C 0 (w3.setCell ⟨b, 7, none⟩ (.slice ca' cn cc'))) := Lib.hid
    { below := HB3.out.trans (HO4.out.below (B := w.heap.size) (fun k e => by omega) HB3.out.size)
      b0 := hb.symm
      box := HX4.out
      res := HO4.out.get HZ3.out (by omega)
      lab := or_kept HLab3.out (fun g' hg' => HO4.out.block g' (HLab3.out.lt g' hg').2 (by have := (HLab3.out.lt g' hg').1; omega))
      row := or_kept HRow3.out (fun g' hg' => HO4.out.block g' (HRow3.out.lt g' hg').2 (by have := (HRow3.out.lt g' hg').1; omega))
      llen := HN.out
      len := HG.out.1
      con := rfl
      gr := hg1
      labne := fun ad e => by have h1 := HLlt.out ad e; have h2 := HSz.out; rcases hg2 with h3 | h3 <;> omega
      old := fun _ _ => rfl
      new := fun j hj => absurd hj (Nat.not_lt_zero j) }
  clear hr hb3 hg1 hg2 HX2 HX3 HX4 HO4 HB2 HB3 HZ2 HZ3 HLab2 HLab3 HRow3 HSz HLlt CC
  go_wp2_with fail
  clear d7 f7
  obtain ⟨w4, hw4⟩ : ∃ w4, w3.setCell ⟨b, 7, none⟩ (.slice ca' cn cc') = w4 := ⟨_, rfl⟩
  rw [hw4] at HS ⊢
  clear hw4
  go_loopw [23] (fun v wr => ∃ (j : Nat) (P : List Cg), v = .int .i64 (j : Int) ∧ j ≤ cn ∧ Hid (OwS w b #[.int .i64 k, .string m, .slice la' ln lc', .int .i64 t, .int .i64 n, .int .i64 tm, .int .i64 bt, .slice ca' cn cc'] #[.int .i64 0, .string ⟨#[]⟩, .slice none 0 0, .int .i64 0, .int .i64 0, .int .i64 0, .int .i64 0, .slice none 0 0] g ln lc' cn cc' la' ca' L C P j wr)) (fun v _ => cn - (intOf v).toNat)
  case atStart => exact ⟨0, C, rfl, Nat.zero_le _, HS⟩
  clear HS
  case round =>
    obtain ⟨j, P, rfl, hj, HS⟩ := hrel
    by_cases h0 : j < cn
    · have hkC : j < C.length := by rw [HG.out.1]; exact h0
      have hPj : P[j]? = some C[j] := by rw [HS.out.old j (Nat.le_refl _)]; exact List.getElem?_eq_getElem hkC
      have hrd := HG.out.2.2 _ (List.getElem_mem hkC)
      have hlx := HL3.out _ (List.getElem_mem hkC)
      obtain ⟨⟨⟨xa, xc, xl⟩, xn, xo, xg⟩, hx⟩ : ∃ x, C[j] = x := ⟨_, rfl⟩
      rw [hx] at hPj hrd hlx
      simp only at hlx
      have hkP : j < P.length := by rw [HS.out.len]; exact h0
      have hPk : P[j] = ((xa, xc, xl), xn, xo, xg) := by rw [List.getElem?_eq_getElem hkP] at hPj; exact Option.some.inj hPj
      obtain ⟨g', hca⟩ := or_addr HS.out.row (by omega)
      obtain rfl : g' = g := by have := HS.out.gr _ hca; cases this; rfl
      subst hca
      obtain ⟨xm, hxm⟩ : ∃ i, xl.length = i := ⟨_, rfl⟩
      rw [hxm] at hlx
      have c0 := row_own (f := chc) (s := 4) (fun _ => rfl) HS.out.row hkP 0 (by decide) (u := .slice xa xm xc) (by rw [hPk, ← hxm]; rfl)
      rw [Nat.add_zero] at c0
      have c1 := row_own (f := chc) (s := 4) (fun _ => rfl) HS.out.row hkP 1 (by decide) (u := .int .i64 xn) (by rw [hPk]; rfl)
      have c2 := row_own (f := chc) (s := 4) (fun _ => rfl) HS.out.row hkP 2 (by decide) (u := .bool xo) (by rw [hPk]; rfl)
      have c3 := row_own (f := chc) (s := 4) (fun _ => rfl) HS.out.row hkP 3 (by decide) (u := .bool xg) (by rw [hPk]; rfl)
      have HXB := Lib.hid (newB wr (.cells #[.slice xa xm xc, .int .i64 xn, .bool xo, .bool xg] 71))
      have HS5 := Lib.hid (HS.out.go (below_alloc (Below.refl wr.heap.size wr) (.cells #[.slice xa xm xc, .int .i64 xn, .bool xo, .bool xg] 71)))
      have CN := Lib.hid (fun W (hb : Below w.heap.size w W) => clone_lbs (c := xc) hxm (by have := RdLb.below hrd hb; unfold RdLb at this; rw [hxm] at this; exact this) hlx)
      have hw : IntKind.i64.wrap ((j : Int) + 1) = ((j + 1 : Nat) : Int) := by rw [IntKind.wrap_i64]; omega
      have hkI : (j : Int) < (cn : Int) := by omega
      have HPj := Lib.hid hPj
      have HXm := Lib.hid hxm
      clear hkP hkC hPk hPj hrd hlx hx hxm HS
      go_wp2_with fail
      clear c0 c1 c2 c3
      obtain ⟨w5, hw5⟩ : ∃ w5, wr.alloc (.cells #[.slice xa xm xc, .int .i64 xn, .bool xo, .bool xg] 71) = w5 := ⟨_, rfl⟩
      rw [hw5] at HXB HS5 ⊢
      clear hw5
      obtain ⟨X5, hX5⟩ : ∃ X, wr.heap.size = X := ⟨_, rfl⟩
      rw [hX5] at HXB ⊢
      clear hX5
      refine wp_region_fork 9 (.q 0 (.q 1 (.q 2 (.q 3 (.q 4 (.q 5 (.alt 6 (.q 7 (.q 8 .nil)) .stop))))))) (Below w5.heap.size w5) Triv (by kernel_rfl) (by kernel_rfl) (Stab.below _ _ (Nat.le_refl _)) Triv.stab ((Below.refl _ _).drew) (triv _) ?_
      repeat (first | (refine wf_q rfl rfl ?_; apply Exists.intro; refine ⟨fun w' hw' => ?_, fun K hK => ?_⟩; (focus ((have z0 := cellAt (o := 7) (keepB HS5.out.box hw') rfl; have z1 := cellAt (o := 0) (keepB HXB.out hw') rfl); go_simp; first | exact quiet_value | fail)); simp only [Act.put, List.setIfInBounds_toArray, List.set_cons_zero, List.set_cons_succ]; refine hK.out _ ?_; clear hK K) | (refine wf_skip rfl rfl (fun K hK => ?_); simp only [Act.put, List.setIfInBounds_toArray, List.set_cons_zero, List.set_cons_succ]; refine hK.out _ ?_; clear hK K) | (refine wf_skipu rfl rfl (fun K hK => ?_); simp only [Act.put, List.setIfInBounds_toArray, List.set_cons_zero, List.set_cons_succ]; refine hK.out _ ?_; clear hK K))
      refine wf_step (FrL w5.heap.size xm xl) (fun _ => Triv) (FrL.stab _ _ _) (fun _ => Triv.stab) rfl rfl (fun w' hc hd => ?_) (fun K hK v => ?_) wf_stop
      focus
        have HC := Lib.hid hc
        clear hc hd
        go_simp
        refine st_enter ?_
        exact (CN.out _ (HS5.out.go HC.out).below).mono fun e W' ⟨u, h1, h2, h3⟩ => ⟨u, h1, HC.out.trans (h3.mono HC.out.size), by obtain ⟨a, c, rfl⟩ := or_form h2; exact ⟨a, c, rfl, or_base h2 HC.out.size⟩, triv _⟩
      simp only [Act.put, List.setIfInBounds_toArray, List.set_cons_zero, List.set_cons_succ]
      refine hK.out _ _ _ ?_
      clear hK K
      repeat (first | (refine wf_q rfl rfl ?_; apply Exists.intro; refine ⟨fun w' hw' => ?_, fun K hK => ?_⟩; (focus ((skip); go_simp; first | exact quiet_value | fail)); simp only [Act.put, List.setIfInBounds_toArray, List.set_cons_zero, List.set_cons_succ]; refine hK.out _ ?_; clear hK K) | (refine wf_skip rfl rfl (fun K hK => ?_); simp only [Act.put, List.setIfInBounds_toArray, List.set_cons_zero, List.set_cons_succ]; refine hK.out _ ?_; clear hK K) | (refine wf_skipu rfl rfl (fun K hK => ?_); simp only [Act.put, List.setIfInBounds_toArray, List.set_cons_zero, List.set_cons_succ]; refine hK.out _ ?_; clear hK K))
      refine wf_nil ?_
      rintro w6 ⟨hb6, A, c, rfl, hr6⟩ _
      have HS6 := Lib.hid (HS5.out.go hb6)
      have hk6 : j < P.length := by rw [HS6.out.len]; exact h0
      have hPk6 : P[j] = ((xa, xc, xl), xn, xo, xg) := by have := HPj.out; rw [List.getElem?_eq_getElem hk6] at this; exact Option.some.inj this
      have q0 := row_own (f := chc) (s := 4) (fun _ => rfl) HS6.out.row hk6 0 (by decide) (u := .slice xa xm xc) (by rw [hPk6, ← HXm.out]; rfl)
      rw [Nat.add_zero] at q0
      obtain ⟨cur, hcur⟩ : ∃ cur, w6.heap[g']? = some (.cells cur 71 (0, 0)) := by
        rcases HS6.out.row.2 with ⟨h1, _⟩ | ⟨g2, _, cur, h1, _, h3, _⟩
        · cases h1
        · cases h1; exact ⟨cur, h3⟩
      have q1 := freeAt (j * 4) hcur
      have HS7 := Lib.hid (HS5.out.step hb6 h0 HPj.out HXm.out hr6 rfl)
      clear hb6 hr6 hk6 hPk6 hcur HPj HXB HS5 CN
      (try simp only [List.drop_succ_cons]); (try simp only [List.drop_zero]); (try simp only [List.drop_nil])
      go_wp2_with fail
      go_roundw
      case rel => exact ⟨j + 1, _, by go_num, by omega, HS7⟩
      case measure => simp [intOf]; omega
    · obtain rfl : j = cn := by omega
      have hkI : ¬ (j : Int) < (j : Int) := by omega
      have c0 := cellAt (o := 0) HS.out.box rfl
      have c1 := cellAt (o := 1) HS.out.box rfl
      have c2 := cellAt (o := 2) HS.out.box rfl
      have c3 := cellAt (o := 3) HS.out.box rfl
      have c4 := cellAt (o := 4) HS.out.box rfl
      have c5 := cellAt (o := 5) HS.out.box rfl
      have c6 := cellAt (o := 6) HS.out.box rfl
      have c7 := cellAt (o := 7) HS.out.box rfl
      have r0 := cellAt (o := 0) HS.out.res rfl
      have r1 := cellAt (o := 1) HS.out.res rfl
      have r2 := cellAt (o := 2) HS.out.res rfl
      have r3 := cellAt (o := 3) HS.out.res rfl
      have r4 := cellAt (o := 4) HS.out.res rfl
      have r5 := cellAt (o := 5) HS.out.res rfl
      have r6 := cellAt (o := 6) HS.out.res rfl
      have r7 := cellAt (o := 7) HS.out.res rfl
      have f0 := freeAt 0 HS.out.res
      have f1 := freeAt 1 HS.out.res
      have f2 := freeAt 2 HS.out.res
      have f3 := freeAt 3 HS.out.res
      have f4 := freeAt 4 HS.out.res
      have f5 := freeAt 5 HS.out.res
      have f6 := freeAt 6 HS.out.res
      have f7 := freeAt 7 HS.out.res
      go_wp2_with fail
      have HO9 : Only (fun i => i = b + 1) wr _ := (((((((Only.set wr (b + 1) 0 (.int .i64 k)).trans (Only.set _ (b + 1) 1 (.string m))).trans (Only.set _ (b + 1) 2 (.slice la' ln lc'))).trans (Only.set _ (b + 1) 3 (.int .i64 t))).trans (Only.set _ (b + 1) 4 (.int .i64 n))).trans (Only.set _ (b + 1) 5 (.int .i64 tm))).trans (Only.set _ (b + 1) 6 (.int .i64 bt))).trans (Only.set _ (b + 1) 7 (.slice ca' j cc'))
      refine bodyPost_ret (v := .agg #[.int .i64 k, .string m, .slice la' ln lc', .int .i64 t, .int .i64 n, .int .i64 tm, .int .i64 bt, .slice ca' j cc']) (by simp only [results, Try.results22]; go_simp) rfl ⟨la', lc', ca', cc', P, rfl, HS.out.len, HS.out.con, HS.out.done HO9, HS.out.below.trans (HO9.below (fun i e => by have := HS.out.b0; have := HS.out.below.size; omega) HS.out.below.size)⟩
end Go.Proofs.Ytjnkcgegmffncaa
