/- Parts of the proof: TbP. -/
import Derived.Test.YtangcgfchalnaaaYao
import Derived.Test.YtangcgfchalnaaaYaq
/- intern: Put. -/
namespace Go.Proofs.Ytangcgfchalnaaa
open Go.RowKit Go.MapKept
/-- What Put leaves, and the number that it tells. -/
def putT (X : List SeC) (s : SeC) : List SeC := if idK (seK s) X = 0 then X ++ [s] else X
def putI (X : List SeC) (s : SeC) : Nat := if idK (seK s) X = 0 then X.length + 1 else idK (seK s) X
theorem infoSe : (Try.prog.info? 32).map (fun i => (i.zero, i.size, i.bytes)) = some (some (.agg #[.string ⟨#[]⟩, .slice none 0 0]), 2, 40) := by kernel_rfl
set_option maxHeartbeats 8000000 in
set_option maxRecDepth 100000 in
theorem tput_any {w : World} {F : Nat → Prop} {t n c : Nat} {X : List SeC} {m : ByteArray} {A : Option Addr} {L : List Lb} (hT : TabO t X w F) (hn : L.length = n) (h : RdLb w A L) (hE : serE m L = 0) (hS : smallS m L) (hX : X.length < 1024) :
    Calls Try.prog 26 #[tptr t, .agg #[.string m, .slice A n c]] w fun e w' => e = .returned (.tuple #[.int .i64 (putI X (m, L) : Int), .int .i64 0]) ∧ Goes (TabO t (putT X (m, L))) F w w' := by
  have HB := Lib.hid (below_alloc (Below.refl w.heap.size w) (.cells #[.string m, .slice A n c] 32))
  have HX := Lib.hid (newB w (.cells #[.string m, .slice A n c] 32))
  have CR := Lib.hid (fun W (hb : Below w.heap.size w W) => tright_any ((TabO.obj _ _).below hT hb))
  have CC := Lib.hid (fun W (hb : Below w.heap.size w W) => cser_any (m := m) (c := c) hn (h.below hb))
  have CK := Lib.hid (fun W (hb : Below w.heap.size w W) => skey_any (m := m) (c := c) hn (h.below hb) hE hS)
  have HT := Lib.hid hT
  obtain ⟨l, by_, me, ix, own, B, Y, hC, hY, hBB⟩ := hT
  obtain ⟨i, hi⟩ : ∃ i, idK (seK (m, L)) X = i := ⟨_, rfl⟩
  obtain ⟨b, hb⟩ : ∃ b, b = decide (i ≠ 0) := ⟨_, rfl⟩
  have HL : Hid (∀ W, Below w.heap.size w W → (Instr.lookup 91 (.map (some by_)) (.string (seK (m, L))) true).run Try.prog W = .ok (.tuple #[.int .i64 (i : Int), .bool b]) W ∧ W.heap[t]? = some (.cells #[l, .map (some by_), .map (some me), .map (some ix)] 96 (0, 0))) := Lib.hid (fun W hbW => by
    have hk := hC.bym.keep (S := fun _ => False) (Only.of_below hbW) (fun h => h)
    rw [hY] at hk
    exact ⟨by_look hk _ hi hb, keepB hC.tab hbW⟩)
  have HI := Lib.hid hi
  have HC := Lib.hid (And.intro hC (And.intro hY hBB))
  have HP := Lib.hid (And.intro hn (And.intro h (And.intro hE (And.intro hS hX))))
  rw [hE] at CC
  obtain ⟨k, hk⟩ : ∃ k, seK (m, L) = k := ⟨_, rfl⟩
  have hk2 : (⟨(keyB m L).toArray⟩ : ByteArray) = k := hk
  have HK := Lib.hid hk
  rw [hk] at HL
  rw [hk2] at CK
  obtain ⟨r1, hr1⟩ : ∃ r, putI X (m, L) = r := ⟨_, rfl⟩
  obtain ⟨R, hR⟩ : ∃ r, putT X (m, L) = r := ⟨_, rfl⟩
  rw [hr1, hR]
  have HR := Lib.hid (And.intro hr1 hR)
  clear hn h hE hS hi hC hY hBB hX hk hk2 hr1 hR
  go_enter Try.func26, Try.ntmps26
  go_wp2_with fail
  refine (CR.out _ HB.out).mono ?_
  rintro e w1 ⟨rfl, rfl⟩
  have d0 := cellAt (o := 0) HX.out rfl
  have d1 := cellAt (o := 1) HX.out rfl
  go_wp2_with fail
  refine (CC.out _ HB.out).mono ?_
  rintro e w2 ⟨rfl, hb2⟩
  have HB2 := Lib.hid (HB.out.trans (hb2.mono HB.out.size))
  have HX2 := Lib.hid (keepB HX.out hb2)
  clear hb2 d0 d1
  have d0 := cellAt (o := 0) HX2.out rfl
  have d1 := cellAt (o := 1) HX2.out rfl
  go_wp2_with fail
  refine (CK.out _ HB2.out).mono ?_
  rintro e w3 ⟨rfl, hb3⟩
  have HB3 := Lib.hid (HB2.out.trans (hb3.mono HB2.out.size))
  have HX3 := Lib.hid (keepB HX2.out hb3)
  clear hb3 d0 d1 CC CK CR
  obtain ⟨hlk, htb⟩ := HL.out _ HB3.out
  have k1 := cellAt (o := 1) (v := .map (some by_)) htb rfl
  have k0 := cellAt (o := 0) (v := l) htb rfl
  by_cases h0' : i = 0
  · obtain rfl : b = false := by rw [hb]; simp [h0']
    clear hb
    obtain ⟨hC, hY, hBB⟩ := HC.out
    obtain ⟨xn, hxn⟩ : ∃ n, Y.length = n := ⟨_, rfl⟩
    have hXn : X.length = xn := by rw [← hxn, ← hY, List.length_map]
    have hrow := hC.row
    rw [hxn] at hrow
    obtain ⟨lA, lcap, rfl, _, _, _, _, _⟩ := hrow.form
    have hx24 : xn < 1024 := by have := HP.out.2.2.2.2; omega
    have h24 : ¬ xn = 1024 := by omega
    have h24D : decide ((xn : Int) = 1024) = false := decide_eq_false (by omega)
    have h24B : ((xn : Int) == 1024) = false := beq_eq_false_iff_ne.2 (by omega)
    have HN := Lib.hid (And.intro hxn hXn)
    have HRow := Lib.hid hrow
    have CL := Lib.hid (clone_lbs (w := w3) (c := c) HP.out.1 (by have := HP.out.2.1.below HB3.out; unfold RdLb at this; rw [HP.out.1] at this; exact this) (by have := HP.out.2.2.2.1.2.1; have := HP.out.1; omega))
    clear hC hY hBB hxn hXn hrow htb
    have d0 := cellAt (o := 0) HX3.out rfl
    have d1 := cellAt (o := 1) HX3.out rfl
    go_wp2_with fail
    refine CL.out.mono ?_
    rintro e w4 ⟨v, rfl, hv, hb4⟩
    obtain ⟨vA, vc, rfl⟩ := or_form hv
    have HB4 := Lib.hid (HB3.out.trans (hb4.mono HB3.out.size))
    have HV := Lib.hid hv
    have HX4 := Lib.hid (keepB HX3.out hb4)
    clear hv hb4 CL d0 d1 k0 k1 hlk
    have d0 := cellAt (o := 0) HX4.out rfl
    have d1 := cellAt (o := 1) HX4.out rfl
    have g1 := freeAt 1 HX4.out
    go_wp2_with fail
    clear d0 d1 g1
    have HX5 := Lib.hid (setCell_get (o := 1) (u := .slice vA n vc) HX4.out)
    have HO5 := Lib.hid (Only.set w4 w.heap.size 1 (.slice vA n vc))
    obtain ⟨w5, hw5⟩ : ∃ w5, w4.setCell ⟨w.heap.size, 1, none⟩ (.slice vA n vc) = w5 := ⟨_, rfl⟩
    rw [hw5] at HX5 HO5 ⊢
    clear hw5
    have HB5 := Lib.hid (HB4.out.trans (HO5.out.below (fun k e => by omega) HB4.out.size))
    have HT5 := Lib.hid (keepB HC.out.1.tab HB5.out)
    have HR5 := Lib.hid (HRow.out.below HB5.out)
    have hrb : ∀ g, (Value.slice lA xn lcap).ownBlock = some g → (F g ∧ g ≠ t) ∧ g < w.heap.size := fun g hg => HRow.out.lt g hg
    have htl := only_lt HC.out.1.tab
    have HFN : Hid (∀ p ∈ [(t, Obj.cells #[.slice lA xn lcap, .map (some by_), .map (some me), .map (some ix)] 96), (w.heap.size, .cells #[.string m, .slice vA n vc] 32)], ¬ (Value.slice lA xn lcap).ownBlock = some p.1) := Lib.hid (fun p hp => by
      simp only [List.mem_cons, List.not_mem_nil, or_false] at hp
      rcases hp with rfl | rfl
      · exact fun e => (hrb _ e).1.2 rfl
      · exact fun e => by have := (hrb _ e).2; simp only at this; omega)
    have HFC : Hid (FC w5 (fun k => (Value.slice lA xn lcap).ownBlock = some k) [(t, Obj.cells #[.slice lA xn lcap, .map (some by_), .map (some me), .map (some ix)] 96), (w.heap.size, .cells #[.string m, .slice vA n vc] 32)] w5) := Lib.hid ⟨Only.refl _ _, fun p hp => by
      simp only [List.mem_cons, List.not_mem_nil, or_false] at hp
      rcases hp with rfl | rfl
      · exact HT5.out
      · exact HX5.out⟩
    clear hrb htl
    obtain ⟨ip, hip, hz1, hz2, hz3⟩ := info_parts infoSe
    have HIP := Lib.hid (And.intro hip (And.intro hz1 (And.intro hz2 hz3)))
    clear hip hz1 hz2 hz3
    refine wp_region_two 8 [(0, false), (1, false), (2, false), (3, false), (4, false), (5, false), (6, true), (7, true)] [] [] rfl (FC w5 (fun k => (Value.slice lA xn lcap).ownBlock = some k) [(t, Obj.cells #[.slice lA xn lcap, .map (some by_), .map (some me), .map (some ix)] 96), (w.heap.size, .cells #[.string m, .slice vA n vc] 32)]) (D0 w5) (by kernel_rfl) (by kernel_rfl) FC.stab (D0.stab w5) (FC.stab _ _ HFC.out (Below.refl _ _).drew) (Below.refl _ _).drew ?_
    repeat (first | (refine wt_q rfl rfl ?_; apply Exists.intro; refine ⟨fun w' hw' => ?_, fun K hK => ?_⟩; (focus ((have q0 := hw'.get 0 rfl; have k0 := cellAt (o := 0) (v := .slice lA xn lcap) q0 rfl; have qx := hw'.get 1 rfl; have x0 := cellAt (o := 0) qx rfl; have x1 := cellAt (o := 1) qx rfl; clear q0 qx); go_simp; first | exact quiet_value | fail)); simp only [Act.put, List.setIfInBounds_toArray, List.set_cons_zero, List.set_cons_succ]; refine hK.out _ ?_; clear hK K) | (refine wt_skip rfl rfl (fun K hK => ?_); simp only [Act.put, List.setIfInBounds_toArray, List.set_cons_zero, List.set_cons_succ]; refine hK.out _ ?_; clear hK K))
    refine wt_bs 32 #[.string m, .slice vA n vc] rfl rfl rfl (fun w' hc hd => ?_) (fun K hK v => ?_)
    focus
      have HCd := Lib.hid (And.intro hc hd)
      clear hc hd
      go_simp
      exact bs_res HCd.out.1 HCd.out.2 rfl
    simp only [Act.put, List.setIfInBounds_toArray, List.set_cons_zero, List.set_cons_succ]
    refine hK.out _ _ _ ?_
    clear hK K
    refine wt_ap 2 (xn + 1) (rowF sec Y ++ [.string m, .slice vA n vc]) rfl rfl rfl (fun w' hc hd => ?_) (fun K hK v' => ?_)
    focus
      obtain ⟨u, w3, hrun, hres⟩ := ap_run (P := Try.prog) 94 94 32 ip _ 2 40 Try.underlying94 HIP.out.1 HIP.out.2.1 HIP.out.2.2.1 HIP.out.2.2.2 rfl HR5.out (fun _ => Iff.rfl) HFN.out rfl (fun u hu => by
        simp only [List.mem_cons, List.not_mem_nil, or_false] at hu
        rcases hu with rfl | rfl <;> rfl) (by omega) (by omega) hc hd
      exact st_ap (.tmp 48) (.tmp 50) rfl rfl rfl hrun hres
    simp only [Act.put, List.setIfInBounds_toArray, List.set_cons_zero, List.set_cons_succ]
    refine hK.out _ _ _ ?_
    clear hK K
    refine wt_nil ?_
    rintro w6 ⟨⟨hc6, _⟩, _⟩ ⟨w2, hb2, hrow6, ho6⟩
    obtain ⟨x1, hx1⟩ : ∃ x, xn + 1 = x := ⟨_, rfl⟩
    rw [hx1] at hrow6
    have HX1 := Lib.hid hx1
    clear hx1
    have q0 := hc6.get 0 rfl
    have j0 := cellAt (o := 0) (v := .slice lA xn lcap) q0 rfl
    have f0 := freeAt 0 q0
    have HC6 := Lib.hid hc6
    have HB6 := Lib.hid hb2
    have HR6 := Lib.hid hrow6
    have HO6 := Lib.hid ho6
    obtain ⟨A6, c6, rfl, _⟩ := hrow6.form
    clear hc6 hb2 hrow6 ho6 q0
    try simp only [List.drop_succ_cons, List.drop_zero]
    have hmap : ∀ r, (∃ es c, w.heap[r]? = some (.map es c)) → r ≠ t ∧ (Value.slice lA xn lcap).ownBlock ≠ some r := by
      rintro r ⟨es, c, hr⟩
      refine ⟨fun e => (by rw [e, HC.out.1.tab] at hr; cases hr), fun e => ?_⟩
      rcases HRow.out.2 with ⟨h1, _⟩ | ⟨g, o, c', cur, h1, _, h3, _⟩
      · rw [h1] at e; cases e
      · rw [h1] at e; cases e; rw [h3] at hr; cases hr
    have HMap := Lib.hid hmap
    have HO7 : Hid (Only (fun k => (Value.slice lA xn lcap).ownBlock = some k ∨ k = t) w (w6.setCell ⟨t, 0, none⟩ (.slice A6 x1 c6))) := Lib.hid (((Only.of_below HB5.out).trans (HC6.out.only.mono (fun k _ e => .inl e))).trans ((Only.set w6 t 0 (.slice A6 x1 c6)).mono (fun k _ e => .inr e)))
    have HT7 := Lib.hid (setCell_get (o := 0) (u := .slice A6 x1 c6) (HC6.out.get 0 rfl))
    have HX7 := Lib.hid ((Only.set w6 t 0 (.slice A6 x1 c6)).get (HC6.out.get 1 rfl) (show ¬ w.heap.size = t from fun e => by have := only_lt HC.out.1.tab; omega))
    have HM7 := Lib.hid (HC.out.1.bym.keep HO7.out (fun e => by
      obtain ⟨es, c, h1, _⟩ := HC.out.1.bym
      have := hmap by_ ⟨es, c, h1⟩
      rcases e with e | e
      · exact this.2 e
      · exact this.1 e))
    have hrows : ∀ k cur, F k ∧ k ≠ t → w.heap[k]? = some (.cells cur 3 (0, 0)) → ¬ ((Value.slice lA xn lcap).ownBlock = some k ∨ k = t) := by
      rintro k cur ⟨_, hkt⟩ hk (e | e)
      · rcases HRow.out.2 with ⟨h1, _⟩ | ⟨g, o, c', cu, h1, _, h3, _⟩
        · rw [h1] at e; cases e
        · rw [h1] at e; cases e; rw [h3] at hk; cases hk
      · exact hkt e
    have HI7 := Lib.hid (IntsAt.keep2 HC.out.1.mem HO7.out (fun e => by
      obtain ⟨es, c, h1, _⟩ := HC.out.1.mem
      have := hmap me ⟨es, c, h1⟩
      rcases e with e | e
      · exact this.2 e
      · exact this.1 e) hrows)
    clear hmap hrows
    have hfb : findB k (byL 0 (Y.map seC)) = none := by rw [findB_by, HC.out.2.1, ← HK.out, HI.out, if_pos h0']
    obtain ⟨w8, hup, hm8, ho8⟩ := HM7.out.ins (P := Try.prog) (T := 91) Try.underlying91 Try.underlying9 k (.int .i64 (x1 : Int)) hfb
    have HM8 := Lib.hid hm8
    have HO8 := Lib.hid ho8
    have p0 := cellAt (o := 0) (v := .slice A6 x1 c6) HT7.out rfl
    have p1 := cellAt (o := 1) (v := .map (some by_)) HT7.out rfl
    have HT8 := Lib.hid (ho8.get HT7.out (show ¬ t = by_ from fun e => by obtain ⟨es, c, h1, _⟩ := HM7.out; rw [← e] at h1; have h := h1.symm.trans HT7.out; cases h))
    have HX8 := Lib.hid (ho8.get HX7.out (show ¬ w.heap.size = by_ from fun e => by obtain ⟨es, c, h1, _⟩ := HM7.out; rw [← e] at h1; have h := h1.symm.trans HX7.out; cases h))
    have HI8 := Lib.hid (HI7.out.keep2 ho8 (show ¬ me = by_ from fun e => HC.out.1.ne.1 e.symm) (fun k cur _ hk e => by
      have e : k = by_ := e
      obtain ⟨es, c, h1, _⟩ := HM7.out
      rw [e, h1] at hk; cases hk))
    clear hm8 ho8 hfb
    go_wp2_with fail
    obtain ⟨l6, hl6⟩ : ∃ l6, Value.slice A6 x1 c6 = l6 := ⟨_, rfl⟩
    have hC8 : TabC w8 (fun k => F k ∨ w.heap.size ≤ k) t l6 by_ me ix (fun k => if w.heap.size ≤ k then (t, ⟨#[]⟩) else own k) B (Y ++ [(m, vA, vc, L)]) := by
      have hsz : w.heap.size ≤ w4.heap.size := HB4.out.size
      have hs5 := HB5.out.size
      have hs6 := HB6.out.size
      obtain ⟨be, bc, hby⟩ : ∃ es c, w.heap[by_]? = some (.map es c) := by obtain ⟨es, c, h1, _⟩ := HC.out.1.bym; exact ⟨es, c, h1⟩
      have hbyt := HMap.out by_ ⟨be, bc, hby⟩
      have hbyl := only_lt hby
      have htl := only_lt HC.out.1.tab
      have hlow : ∀ k, (Value.slice lA xn lcap).ownBlock = some k → k ≠ t ∧ k < w.heap.size := fun k hk => ⟨(HRow.out.lt k hk).1.2, (HRow.out.lt k hk).2⟩
      have hrow6 := HR6.out
      rw [hl6] at hrow6
      have h6 : ∀ k, l6.ownBlock = some k → (Value.slice lA xn lcap).ownBlock = some k ∨ w5.heap.size ≤ k := fun k hk => (hrow6.lt k hk).1.imp id (fun e => by omega)
      have hrow8 : RowAt w8 (fun k => (Value.slice lA xn lcap).ownBlock = some k ∨ w.heap.size ≤ k) 32 2 l6 x1 (rowF sec Y ++ [.string m, .slice vA n vc]) :=
        ((hrow6.keep' (Only.set w6 t 0 (.slice A6 x1 c6)) (fun k hk e => by
          rcases h6 k hk with h | h
          · exact (hlow k h).1 e
          · omega)).keep' HO8.out (fun k hk e => by
          rcases h6 k hk with h | h
          · exact hbyt.2 (by rw [h, show k = by_ from e])
          · have e : k = by_ := e
            omega)).weak (fun k _ hk => hk.imp id (fun e => by omega))
      have hO4 : Only (fun k => k < w3.heap.size) w4 w8 := by
        have a1 : Only (fun k => k < w3.heap.size) w4 w5 := HO5.out.mono (fun k _ e => by have e : k = w.heap.size := e; have := only_lt HX3.out; omega)
        have a2 : Only (fun k => k < w3.heap.size) w5 w6 := HC6.out.only.mono (fun k _ e => by have := (hlow k e).2; have := HB3.out.size; omega)
        have a3 := (Only.set w6 t 0 (.slice A6 x1 c6)).mono (T := fun k => k < w3.heap.size) (fun k _ e => by have e : k = t := e; have := HB3.out.size; omega)
        have a4 := HO8.out.mono (T := fun k => k < w3.heap.size) (fun k _ e => by have e : k = by_ := e; have := HB3.out.size; omega)
        exact ((a1.trans a2).trans a3).trans a4
      have hv8 := or_only HV.out hO4 (fun g hg => by have := (World.ownsRow.lt HV.out g hg).1; omega)
      refine TabC.snoc (x := (m, vA, vc, L)) HC.out.1 ((HO7.out.mono (fun k _ e => e.elim .inl (fun e => .inr (.inl e)))).trans (HO8.out.mono (fun k _ e => .inr (.inr e)))) ?_ ?_ ?_ ?_ (fun h0 ad e => ?_) ⟨HP.out.2.2.2.1, HP.out.2.2.1⟩
      · have := HT8.out
        rw [← hl6]
        exact this
      · have e1 : Y.length + 1 = x1 := by rw [HN.out.1, HX1.out]
        rw [e1]
        show RowAt w8 _ _ 2 l6 x1 (rowF sec Y ++ [.string m, .slice vA L.length vc])
        rw [HP.out.1]
        exact hrow8
      · have e1 : Y.length + 1 = x1 := by rw [HN.out.1, HX1.out]
        rw [e1]
        show MapS w8 by_ (byL 0 (Y.map seC) ++ [(seK (m, L), .int .i64 (x1 : Int))])
        rw [HK.out]
        exact HM8.out
      · show RdLb w8 vA L
        unfold RdLb
        rw [HP.out.1]
        exact Reads.of_own hv8
      · have e : vA = some ad := e
        subst e
        have hlt := World.ownsRow.lt HV.out ad.block rfl
        have := HB3.out.size
        refine ⟨by omega, fun e1 => ?_⟩
        rcases h6 _ e1 with h | h
        · have := (hlow _ h).2; omega
        · have : w4.heap.size ≤ w5.heap.size := HO5.out.size
          omega
    have HC8 := Lib.hid hC8
    have HO8w : Hid (Only (fun k => F k) w w8) := Lib.hid ((HO7.out.mono (fun k _ e => e.elim (fun e => (HRow.out.lt k e).1.1) (fun e => by rw [e]; exact HC.out.1.int))).trans (HO8.out.mono (fun k _ e => by rw [show k = by_ from e]; exact HC.out.1.inb)))
    rw [hl6] at HT8
    have HL6 := Lib.hid hl6
    clear hC8 hl6 HI8 HM8 HO8 HT7 HX7 HM7 HI7 HO7 HR6 HO6 HC6 HB6 HV HX4 HX5 HO5 HT5 HR5 HFN HFC HIP HMap hup p0 p1 j0 f0
    have zints : ∀ w, (zeroValue 39).run Try.prog w = .ok (.slice none 0 0) w := fun w => by kernel_rfl
    obtain ⟨v9, hlk9, hv9⟩ := MapV.look2 (P := Try.prog) (T := 92) Try.underlying92 Try.underlying9 zints HC8.out.mem m
    have HI9 : Hid (IntAt w8 (fun k => (F k ∨ w.heap.size ≤ k) ∧ k ≠ t) (fun k => if w.heap.size ≤ k then (t, ⟨#[]⟩) else own k) (me, m) B v9) := Lib.hid (hv9.elim (fun e => .inl e) (fun h => h))
    have HL9 := Lib.hid hlk9
    obtain ⟨es9, cn9, hme9⟩ : ∃ es c, w8.heap[me]? = some (.map es c) := by obtain ⟨es, c, h1, _⟩ := HC8.out.mem; exact ⟨es, c, h1⟩
    have HME := Lib.hid hme9
    clear zints hlk9 hv9 hme9
    obtain ⟨own8, ho8⟩ : ∃ o, (fun k => if w.heap.size ≤ k then (t, (⟨#[]⟩ : ByteArray)) else own k) = o := ⟨_, rfl⟩
    rw [ho8] at HC8 HI9
    clear ho8
    obtain ⟨G, hG⟩ : ∃ G, (fun k => F k ∨ w.heap.size ≤ k) = G := ⟨_, rfl⟩
    have HG : Hid (∀ k, G k ↔ (F k ∨ w.heap.size ≤ k)) := Lib.hid (fun k => by rw [← hG])
    have hI9 : IntAt w8 (fun k => G k ∧ k ≠ t) own8 (me, m) B v9 := by subst hG; exact HI9.out
    rw [hG] at HC8
    clear HI9 hG
    have HI9 := Lib.hid hI9
    clear hI9
    have hs8 : w.heap.size ≤ w8.heap.size := HO8w.out.size
    have hFN : ∀ p ∈ [(t, Obj.cells #[l6, .map (some by_), .map (some me), .map (some ix)] 96), (w.heap.size, .cells #[.string m, .slice vA n vc] 32), (me, .map es9 cn9)], ¬ v9.ownBlock = some p.1 := fun p hp e => by
      obtain ⟨h1, _, cur, h3⟩ := HI9.out.blk _ e
      simp only [List.mem_cons, List.not_mem_nil, or_false] at hp
      rcases hp with rfl | rfl | rfl
      · exact h1.2 rfl
      · have := HX8.out; simp only at h3; rw [this] at h3; cases h3
      · have := HME.out; simp only at h3; rw [this] at h3; cases h3
    have HFN := Lib.hid hFN
    have HFC : Hid (FC w8 (fun k => v9.ownBlock = some k) [(t, Obj.cells #[l6, .map (some by_), .map (some me), .map (some ix)] 96), (w.heap.size, .cells #[.string m, .slice vA n vc] 32), (me, .map es9 cn9)] w8) := Lib.hid ⟨Only.refl _ _, fun p hp => by
      simp only [List.mem_cons, List.not_mem_nil, or_false] at hp
      rcases hp with rfl | rfl | rfl
      · exact HT8.out
      · exact HX8.out
      · exact HME.out⟩
    have hBl : B ≤ 900000 := by have := HC.out.2.2; have := HN.out.2; omega
    have HBl := Lib.hid hBl
    clear hFN hBl
    refine wp_region_two 16 [(0, false), (1, false), (2, false), (3, false), (4, false), (5, false), (6, false), (7, false), (8, false), (9, false), (10, false), (11, false), (12, false), (13, false), (14, true), (15, true)] [] [] rfl (FC w8 (fun k => v9.ownBlock = some k) [(t, Obj.cells #[l6, .map (some by_), .map (some me), .map (some ix)] 96), (w.heap.size, .cells #[.string m, .slice vA n vc] 32), (me, .map es9 cn9)]) (D0 w8) (by kernel_rfl) (by kernel_rfl) FC.stab (D0.stab w8) (FC.stab _ _ HFC.out (Below.refl _ _).drew) (Below.refl _ _).drew ?_
    repeat (first | (refine wt_q rfl rfl ?_; apply Exists.intro; refine ⟨fun w' hw' => ?_, fun K hK => ?_⟩; (focus ((have q0 := hw'.get 0 rfl; have k2 := cellAt (o := 2) (v := .map (some me)) q0 rfl; have qx := hw'.get 1 rfl; have x0 := cellAt (o := 0) qx rfl; have hl := HL9.out w' ((hw'.get 2 rfl).trans HME.out.symm); clear q0 qx); go_simp; first | exact quiet_value | fail)); simp only [Act.put, List.setIfInBounds_toArray, List.set_cons_zero, List.set_cons_succ]; refine hK.out _ ?_; clear hK K) | (refine wt_skip rfl rfl (fun K hK => ?_); simp only [Act.put, List.setIfInBounds_toArray, List.set_cons_zero, List.set_cons_succ]; refine hK.out _ ?_; clear hK K))
    refine wt_bs 3 #[.int .i64 (x1 : Int)] rfl rfl rfl (fun w' hc hd => ?_) (fun K hK v => ?_)
    focus
      have HCd := Lib.hid (And.intro hc hd)
      clear hc hd
      go_simp
      exact bs_res HCd.out.1 HCd.out.2 rfl
    simp only [Act.put, List.setIfInBounds_toArray, List.set_cons_zero, List.set_cons_succ]
    refine hK.out _ _ _ ?_
    clear hK K
    refine wt_api (B := B) (v9 := v9) rfl rfl rfl (fun w' hc hd => ?_) (fun K hK v' => ?_)
    focus
      obtain ⟨u, w3, hrun, hres⟩ := api_run HI9.out (by have := HBl.out; omega) HFN.out hc hd 39
      exact st_ap (.tmp 77) (.tmp 79) rfl rfl rfl hrun hres
    simp only [Act.put, List.setIfInBounds_toArray, List.set_cons_zero, List.set_cons_succ]
    refine hK.out _ _ _ ?_
    clear hK K
    refine wt_nil ?_
    rintro w9 ⟨⟨hc9, _⟩, _⟩ ⟨w2, n9, xs9, hb9, hn9, hu9, ho9, huB9⟩
    obtain ⟨w10, hup, ⟨own1, hC10⟩, hO10, hv10⟩ := HC8.out.bump Try.underlying92 (fun k hk => (HG.out k).2 (.inr (by omega))) HC8.out.inm ⟨HC8.out.ne.1.symm, HC8.out.ne.2.2⟩ HC8.out.mem HI9.out hb9 ho9 hu9 hn9 huB9
    have HC10 := Lib.hid hC10
    have HO10 : Hid (Only (fun k => F k) w w10) := Lib.hid (HO8w.out.then hO10 (fun k hk e => by
      rcases e with e | e
      · exact ((HG.out k).1 (hv10 k e).1).resolve_right (by omega)
      · rw [e] at hk ⊢
        exact ((HG.out me).1 HC8.out.inm).resolve_right (by omega)))
    have HX10 := Lib.hid (hO10.get HX8.out (fun e => by
      rcases e with e | e
      · obtain ⟨_, cur, h3⟩ := hv10 _ e
        have := HX8.out; rw [this] at h3; cases h3
      · have := HX8.out; rw [e, HME.out] at this; cases this))
    clear hC10 hO10 hv10 hc9 hb9 hn9 hu9 ho9 huB9
    try simp only [List.drop_succ_cons, List.drop_zero]
    clear HT8 HX8 HME HL9 HI9 HFN HFC HC8
    have x1_ := cellAt (o := 1) (v := .slice vA n vc) HX10.out rfl
    go_wp2_with fail
    clear HX10 x1_
    go_loopw [84] (fun v wr => ∃ j : Nat, v = .int .i64 (j : Int) ∧ j ≤ n ∧ Hid (∃ own', TabC wr G t l6 by_ me ix own' (B + 1 + j) (Y ++ [(m, vA, vc, L)])) ∧ Hid (Only (fun k => F k) w wr)) (fun v _ => n - (intOf v).toNat)
    case atStart => exact ⟨0, rfl, Nat.zero_le _, Lib.hid ⟨own1, HC10.out⟩, HO10⟩
    clear HC10 HO10
    case round =>
      obtain ⟨j, rfl, hj, HS, HOr⟩ := hrel
      by_cases h0 : j < n
      · obtain ⟨ownr, hCr⟩ := HS.out
        have hjL : j < L.length := by rw [HP.out.1]; exact h0
        have hlr : RdLb wr vA L := (hCr.lab (m, vA, vc, L) (by simp)).1
        obtain ⟨ad, rfl, hadl, c0, c1⟩ := RdLb.at_ hlr hjL
        obtain ⟨⟨x, y⟩, hxy⟩ : ∃ x, L[j] = x := ⟨_, rfl⟩
        rw [hxy] at c0 c1
        simp only at c0 c1
        have hn30 : n ≤ 30 := by have := HP.out.2.2.2.1.2.1; have := HP.out.1; omega
        have hw : IntKind.i64.wrap ((j : Int) + 1) = ((j + 1 : Nat) : Int) := by rw [IntKind.wrap_i64]; omega
        have hkI : (j : Int) < (n : Int) := by omega
        have HJ := Lib.hid (And.intro h0 (And.intro hj hn30))
        have HXl := Lib.hid (newB wr (.cells #[.string x, .string y] 90))
        have HA := Lib.hid (below_alloc (Below.refl wr.heap.size wr) (.cells #[.string x, .string y] 90))
        have zmap : ∀ w, (zeroValue 92).run Try.prog w = .ok (.map none) w := fun w => by kernel_rfl
        obtain ⟨v1, hlk1, hv1⟩ := MapV.look2 (P := Try.prog) (T := 93) Try.underlying93 Try.underlying9 zmap hCr.ind x
        have hixl := MapV.lt hCr.ind
        have HT11 := Lib.hid (keepB hCr.tab HA.out)
        have HCr := Lib.hid hCr
        have HLx : Hid (∀ W, Below (wr.alloc (.cells #[.string x, .string y] 90)).heap.size (wr.alloc (.cells #[.string x, .string y] 90)) W → (Instr.lookup 93 (.map (some ix)) (.string x) false).run Try.prog W = .ok v1 W) := Lib.hid (fun W hb => hlk1 W (((HA.out.trans (hb.mono HA.out.size)).block ix hixl)))
        clear hjL hlr hadl hxy zmap hCr HS hixl hn30
        rcases hv1 with rfl | ⟨r, hr0, hr1⟩
        · clear hlk1
          have heq : ∀ w, (binOp .eql 92 (.map none) (.map none)).run Try.prog w = .ok (.bool true) w := fun w => by kernel_rfl
          have HE := Lib.hid heq
          clear heq
          go_wp2_with fail
          refine wp_region_here 8 [(0, false), (1, false), (2, false), (3, false), (4, false), (5, false), (6, false), (7, false)] (fun _ => .cells #[] 0) (by kernel_rfl) (by kernel_rfl) ?_
          repeat (first | (refine wpP_q rfl rfl rfl ?_; apply Exists.intro; refine ⟨fun w' hw' => ?_, fun K hK => ?_⟩; (focus ((have q0 := keepB HT11.out hw'; have k3 := cellAt (o := 3) (v := .map (some ix)) q0 rfl; have d0 := cellAt (o := 0) (keepB HXl.out hw') rfl; have hl := HLx.out w' hw'; have he := HE.out w'; clear q0); go_simp; first | exact quiet_value | fail)); simp only [Act.put, List.setIfInBounds_toArray, List.set_cons_zero, List.set_cons_succ]; refine hK.out _ ?_; clear hK K) | (refine wpP_skip rfl rfl rfl (fun K hK => ?_); simp only [Act.put, List.setIfInBounds_toArray, List.set_cons_zero, List.set_cons_succ]; refine hK.out _ ?_; clear hK K))
          refine wpP_nil ?_
          intro w12 hb12
          have HB12 := Lib.hid (HA.out.trans (hb12.mono HA.out.size))
          have HT12 := Lib.hid (keepB HT11.out hb12)
          have HXl2 := Lib.hid (keepB HXl.out hb12)
          clear hb12
          (try simp only [List.drop_succ_cons]); (try simp only [List.drop_zero]); (try simp only [List.drop_nil])
          go_wp2_with fail
          have hmm := @run_makeMap Try.prog
          refine wp_region_two 7 [(0, false), (1, false), (2, false), (3, false), (4, false), (5, false), (6, true)] [] [] rfl (Below w12.heap.size w12) Triv (by kernel_rfl) (by kernel_rfl) (Stab.below _ _ (Nat.le_refl _)) (fun _ _ _ _ => triv _) ((Below.refl _ _).drew) (triv _) ?_
          repeat (first | (refine wt_q rfl rfl ?_; apply Exists.intro; refine ⟨fun w' hw' => ?_, fun K hK => ?_⟩; (focus ((have q0 := keepB HT12.out hw'; have k3 := cellAt (o := 3) (v := .map (some ix)) q0 rfl; have d0 := cellAt (o := 0) (keepB HXl2.out hw') rfl; clear q0); go_simp; first | exact quiet_value | fail)); simp only [Act.put, List.setIfInBounds_toArray, List.set_cons_zero, List.set_cons_succ]; refine hK.out _ ?_; clear hK K) | (refine wt_skip rfl rfl (fun K hK => ?_); simp only [Act.put, List.setIfInBounds_toArray, List.set_cons_zero, List.set_cons_succ]; refine hK.out _ ?_; clear hK K))
          refine wt_step rfl (MkM w12) (fun _ => Triv) (MkM.stab _) (fun _ _ _ _ _ => triv _) rfl rfl (fun w' hc hd => ?_) (fun K hK v => ?_)
          focus
            have HCd := Lib.hid hc
            clear hc hd
            go_simp
            exact ⟨below_alloc HCd.out _, ⟨_, rfl, HCd.out.size, newB _ _⟩, triv _⟩
          simp only [Act.put, List.setIfInBounds_toArray, List.set_cons_zero, List.set_cons_succ]
          refine hK.out _ _ _ ?_
          clear hK K
          refine wt_nil ?_
          rintro w13 ⟨hb13, H, rfl, hH, hHm⟩ _
          have HB13 := Lib.hid (HB12.out.trans (hb13.mono HB12.out.size))
          have hXl3 := keepB HXl2.out hb13
          obtain ⟨wq, hup, hCq, hOq1, hOq2, hin⟩ := HCr.out.name (W := w13) Try.underlying93 (fun k hk => (HG.out k).2 (.inr (by have := HOr.out.size; omega))) x HB13.out (by have := HB12.out.size; omega) hHm
          obtain ⟨v1q, hlkq, hv1q⟩ := MapV.look3 (P := Try.prog) (T := 93) Try.underlying93 Try.underlying9 hCq.ind x hin
          have hVq : ∃ v1q, (∀ W : World, W.heap[ix]? = wq.heap[ix]? → (Instr.lookup 93 (.map (some ix)) (.string x) false).run Try.prog W = .ok v1q W) ∧ ∃ r, v1q = .map (some r) ∧ G r ∧ r ≠ by_ ∧ r ≠ me ∧ r ≠ ix ∧ IntsAt wq (fun k => G k ∧ k ≠ t) ownr (B + 1 + j) r := ⟨v1q, hlkq, hv1q⟩
          have hXq : wq.heap[wr.heap.size]? = some (.cells #[.string x, .string y] 90 (0, 0)) := hOq2.get hXl3 (fun e => by have e : wr.heap.size = ix := e; have := MapV.lt HCr.out.ind; omega)
          have hOq : Only (fun k => F k) w wq := HOr.out.then hOq1 (fun k hk e => by
            have e : k = ix := e
            rw [e] at hk ⊢
            exact ((HG.out ix).1 HCr.out.ini).resolve_right (by omega))
          clear hin hv1q hlkq hOq1 hOq2 hXl3 hb13 HXl2 HT12 hH hHm
          try simp only [List.drop_succ_cons, List.drop_zero]
          go_wp2_with fail
          obtain ⟨v1q, hlkq, r, hv1q, hrG, hrb, hrm, hri, hIr⟩ := hVq
          subst hv1q
          have zints : ∀ w, (zeroValue 39).run Try.prog w = .ok (.slice none 0 0) w := fun w => by kernel_rfl
          obtain ⟨v9, hlk9, hv9⟩ := MapV.look2 (P := Try.prog) (T := 92) Try.underlying92 Try.underlying9 zints hIr y
          have hI9 : IntAt (wq) (fun k => G k ∧ k ≠ t) ownr (r, y) (B + 1 + j) v9 := hv9.elim (fun e => .inl e) (fun h => h)
          obtain ⟨er, cr, hrr⟩ : ∃ es c, (wq).heap[r]? = some (.map es c) := by obtain ⟨es, c, h1, _⟩ := hIr; exact ⟨es, c, h1⟩
          obtain ⟨ei, ci, hii⟩ : ∃ es c, (wq).heap[ix]? = some (.map es c) := by obtain ⟨es, c, h1, _⟩ := hCq.ind; exact ⟨es, c, h1⟩
          have HII := Lib.hid hii
          have HRR := Lib.hid hrr
          have HLi := Lib.hid hlkq
          have HLr := Lib.hid hlk9
          have HI9 := Lib.hid hI9
          have HIr := Lib.hid hIr
          have HCq := Lib.hid hCq
          have HXq := Lib.hid hXq
          have HOq := Lib.hid hOq
          have HSq : Hid (w.heap.size ≤ (wq).heap.size) := Lib.hid hOq.size
          have HRf := Lib.hid (And.intro hrG (And.intro hrb (And.intro hrm hri)))
          clear zints hlk9 hv9 hrr hii hlkq hI9 hIr hCq hXq hOq hrG hrb hrm hri
          have HFN : Hid (∀ p ∈ [(t, Obj.cells #[l6, .map (some by_), .map (some me), .map (some ix)] 96), (wr.heap.size, .cells #[.string x, .string y] 90), (ix, .map ei ci), (r, .map er cr)], ¬ v9.ownBlock = some p.1) := Lib.hid (fun p hp e => by
            obtain ⟨h1, _, cur, h3⟩ := HI9.out.blk _ e
            simp only [List.mem_cons, List.not_mem_nil, or_false] at hp
            rcases hp with rfl | rfl | rfl | rfl
            · exact h1.2 rfl
            · have := HXq.out; simp only at h3; rw [this] at h3; cases h3
            · have := HII.out; simp only at h3; rw [this] at h3; cases h3
            · have := HRR.out; simp only at h3; rw [this] at h3; cases h3)
          have HFC : Hid (FC (wq) (fun k => v9.ownBlock = some k) [(t, Obj.cells #[l6, .map (some by_), .map (some me), .map (some ix)] 96), (wr.heap.size, .cells #[.string x, .string y] 90), (ix, .map ei ci), (r, .map er cr)] (wq)) := Lib.hid ⟨Only.refl _ _, fun p hp => by
            simp only [List.mem_cons, List.not_mem_nil, or_false] at hp
            rcases hp with rfl | rfl | rfl | rfl
            · exact HCq.out.tab
            · exact HXq.out
            · exact HII.out
            · exact HRR.out⟩
          refine wp_region_two 22 [(0, false), (1, false), (2, false), (3, false), (4, false), (5, false), (6, false), (7, false), (8, false), (9, false), (10, false), (11, false), (12, false), (13, false), (14, false), (15, false), (16, false), (17, false), (18, false), (19, false), (20, true), (21, true)] [] [] rfl (FC (wq) (fun k => v9.ownBlock = some k) [(t, Obj.cells #[l6, .map (some by_), .map (some me), .map (some ix)] 96), (wr.heap.size, .cells #[.string x, .string y] 90), (ix, .map ei ci), (r, .map er cr)]) (D0 (wq)) (by kernel_rfl) (by kernel_rfl) FC.stab (D0.stab (wq)) (FC.stab _ _ HFC.out (Below.refl _ _).drew) (Below.refl _ _).drew ?_
          repeat (first | (refine wt_q rfl rfl ?_; apply Exists.intro; refine ⟨fun w' hw' => ?_, fun K hK => ?_⟩; (focus ((have q0 := hw'.get 0 rfl; have k3 := cellAt (o := 3) (v := .map (some ix)) q0 rfl; have qx := hw'.get 1 rfl; have d0 := cellAt (o := 0) qx rfl; have d1 := cellAt (o := 1) qx rfl; have hl := HLi.out w' ((hw'.get 2 rfl).trans HII.out.symm); have hl2 := HLr.out w' ((hw'.get 3 rfl).trans HRR.out.symm); clear q0 qx); go_simp; first | exact quiet_value | fail)); simp only [Act.put, List.setIfInBounds_toArray, List.set_cons_zero, List.set_cons_succ]; refine hK.out _ ?_; clear hK K) | (refine wt_skip rfl rfl (fun K hK => ?_); simp only [Act.put, List.setIfInBounds_toArray, List.set_cons_zero, List.set_cons_succ]; refine hK.out _ ?_; clear hK K))
          refine wt_bs 3 #[.int .i64 (x1 : Int)] rfl rfl rfl (fun w' hc hd => ?_) (fun K hK v => ?_)
          focus
            have HCd := Lib.hid (And.intro hc hd)
            clear hc hd
            go_simp
            exact bs_res HCd.out.1 HCd.out.2 rfl
          simp only [Act.put, List.setIfInBounds_toArray, List.set_cons_zero, List.set_cons_succ]
          refine hK.out _ _ _ ?_
          clear hK K
          refine wt_api (B := B + 1 + j) (v9 := v9) rfl rfl rfl (fun w' hc hd => ?_) (fun K hK v' => ?_)
          focus
            obtain ⟨u, w3, hrun, hres⟩ := api_run HI9.out (by have := HBl.out; have := HJ.out; omega) HFN.out hc hd 39
            exact st_ap (.tmp 121) (.tmp 123) rfl rfl rfl hrun hres
          simp only [Act.put, List.setIfInBounds_toArray, List.set_cons_zero, List.set_cons_succ]
          refine hK.out _ _ _ ?_
          clear hK K
          refine wt_nil ?_
          rintro w9 ⟨⟨hc9, _⟩, _⟩ ⟨w2, n9, xs9, hb9, hn9, hu9, ho9, huB9⟩
          obtain ⟨wz, hup, hCz, hOz, hvz⟩ := HCq.out.bump Try.underlying92 (fun k hk => (HG.out k).2 (.inr (by have := HSq.out; omega))) HRf.out.1 ⟨HRf.out.2.1, HRf.out.2.2.2⟩ HIr.out HI9.out hb9 ho9 hu9 hn9 huB9
          have HCz := Lib.hid hCz
          have HOz : Hid (Only (fun k => F k) w wz) := Lib.hid (HOq.out.then hOz (fun k hk e => by
            rcases e with e | e
            · exact ((HG.out k).1 (hvz k e).1).resolve_right (by omega)
            · rw [e] at hk ⊢
              exact ((HG.out r).1 HRf.out.1).resolve_right (by omega)))
          clear hCz hOz hvz hc9 hb9 hn9 hu9 ho9 huB9
          try simp only [List.drop_succ_cons, List.drop_zero]
          clear HXq HII HRR HLi HLr HI9 HIr HFN HFC HCq
          go_wp2_with fail
          go_roundw
          case rel => exact ⟨j + 1, by go_num, by have := HJ.out; omega, by rw [show B + 1 + (j + 1) = B + 1 + j + 1 by omega]; exact HCz, HOz⟩
          case measure => simp [intOf]; have := HJ.out; omega
        · subst hr0
          have heq : ∀ w, (binOp .eql 92 (.map (some r)) (.map none)).run Try.prog w = .ok (.bool false) w := fun w => by kernel_rfl
          have HE := Lib.hid heq
          clear heq
          go_wp2_with fail
          refine wp_region_here 8 [(0, false), (1, false), (2, false), (3, false), (4, false), (5, false), (6, false), (7, false)] (fun _ => .cells #[] 0) (by kernel_rfl) (by kernel_rfl) ?_
          repeat (first | (refine wpP_q rfl rfl rfl ?_; apply Exists.intro; refine ⟨fun w' hw' => ?_, fun K hK => ?_⟩; (focus ((have q0 := keepB HT11.out hw'; have k3 := cellAt (o := 3) (v := .map (some ix)) q0 rfl; have d0 := cellAt (o := 0) (keepB HXl.out hw') rfl; have hl := HLx.out w' hw'; have he := HE.out w'; clear q0); go_simp; first | exact quiet_value | fail)); simp only [Act.put, List.setIfInBounds_toArray, List.set_cons_zero, List.set_cons_succ]; refine hK.out _ ?_; clear hK K) | (refine wpP_skip rfl rfl rfl (fun K hK => ?_); simp only [Act.put, List.setIfInBounds_toArray, List.set_cons_zero, List.set_cons_succ]; refine hK.out _ ?_; clear hK K))
          refine wpP_nil ?_
          intro w12 hb12
          have HB12 := Lib.hid (HA.out.trans (hb12.mono HA.out.size))
          have hXq := keepB HXl.out hb12
          have hCq := HCr.out.keep (S := fun _ => False) (Only.of_below HB12.out) (fun _ _ _ h => h)
          have hVq : ∃ v1q, (∀ W : World, W.heap[ix]? = w12.heap[ix]? → (Instr.lookup 93 (.map (some ix)) (.string x) false).run Try.prog W = .ok v1q W) ∧ ∃ r, v1q = .map (some r) ∧ G r ∧ r ≠ by_ ∧ r ≠ me ∧ r ≠ ix ∧ IntsAt w12 (fun k => G k ∧ k ≠ t) ownr (B + 1 + j) r := by
            obtain ⟨g1, g2, g3, g4, g5⟩ := hr1
            refine ⟨_, fun W hW => hlk1 W (hW.trans (HB12.out.block ix (MapV.lt HCr.out.ind))), r, rfl, g1, g2, g3, g4, IntsAt.keep g5 (S := fun _ => False) (Only.of_below HB12.out) (fun h => h) (fun _ _ _ h => h)⟩
          have hOq : Only (fun k => F k) w w12 := HOr.out.trans (Only.of_below HB12.out)
          clear hb12 hlk1 hr1
          (try simp only [List.drop_succ_cons]); (try simp only [List.drop_zero]); (try simp only [List.drop_nil])
          go_wp2_with fail
          obtain ⟨v1q, hlkq, r, hv1q, hrG, hrb, hrm, hri, hIr⟩ := hVq
          subst hv1q
          have zints : ∀ w, (zeroValue 39).run Try.prog w = .ok (.slice none 0 0) w := fun w => by kernel_rfl
          obtain ⟨v9, hlk9, hv9⟩ := MapV.look2 (P := Try.prog) (T := 92) Try.underlying92 Try.underlying9 zints hIr y
          have hI9 : IntAt (w12) (fun k => G k ∧ k ≠ t) ownr (r, y) (B + 1 + j) v9 := hv9.elim (fun e => .inl e) (fun h => h)
          obtain ⟨er, cr, hrr⟩ : ∃ es c, (w12).heap[r]? = some (.map es c) := by obtain ⟨es, c, h1, _⟩ := hIr; exact ⟨es, c, h1⟩
          obtain ⟨ei, ci, hii⟩ : ∃ es c, (w12).heap[ix]? = some (.map es c) := by obtain ⟨es, c, h1, _⟩ := hCq.ind; exact ⟨es, c, h1⟩
          have HII := Lib.hid hii
          have HRR := Lib.hid hrr
          have HLi := Lib.hid hlkq
          have HLr := Lib.hid hlk9
          have HI9 := Lib.hid hI9
          have HIr := Lib.hid hIr
          have HCq := Lib.hid hCq
          have HXq := Lib.hid hXq
          have HOq := Lib.hid hOq
          have HSq : Hid (w.heap.size ≤ (w12).heap.size) := Lib.hid hOq.size
          have HRf := Lib.hid (And.intro hrG (And.intro hrb (And.intro hrm hri)))
          clear zints hlk9 hv9 hrr hii hlkq hI9 hIr hCq hXq hOq hrG hrb hrm hri
          have HFN : Hid (∀ p ∈ [(t, Obj.cells #[l6, .map (some by_), .map (some me), .map (some ix)] 96), (wr.heap.size, .cells #[.string x, .string y] 90), (ix, .map ei ci), (r, .map er cr)], ¬ v9.ownBlock = some p.1) := Lib.hid (fun p hp e => by
            obtain ⟨h1, _, cur, h3⟩ := HI9.out.blk _ e
            simp only [List.mem_cons, List.not_mem_nil, or_false] at hp
            rcases hp with rfl | rfl | rfl | rfl
            · exact h1.2 rfl
            · have := HXq.out; simp only at h3; rw [this] at h3; cases h3
            · have := HII.out; simp only at h3; rw [this] at h3; cases h3
            · have := HRR.out; simp only at h3; rw [this] at h3; cases h3)
          have HFC : Hid (FC (w12) (fun k => v9.ownBlock = some k) [(t, Obj.cells #[l6, .map (some by_), .map (some me), .map (some ix)] 96), (wr.heap.size, .cells #[.string x, .string y] 90), (ix, .map ei ci), (r, .map er cr)] (w12)) := Lib.hid ⟨Only.refl _ _, fun p hp => by
            simp only [List.mem_cons, List.not_mem_nil, or_false] at hp
            rcases hp with rfl | rfl | rfl | rfl
            · exact HCq.out.tab
            · exact HXq.out
            · exact HII.out
            · exact HRR.out⟩
          refine wp_region_two 22 [(0, false), (1, false), (2, false), (3, false), (4, false), (5, false), (6, false), (7, false), (8, false), (9, false), (10, false), (11, false), (12, false), (13, false), (14, false), (15, false), (16, false), (17, false), (18, false), (19, false), (20, true), (21, true)] [] [] rfl (FC (w12) (fun k => v9.ownBlock = some k) [(t, Obj.cells #[l6, .map (some by_), .map (some me), .map (some ix)] 96), (wr.heap.size, .cells #[.string x, .string y] 90), (ix, .map ei ci), (r, .map er cr)]) (D0 (w12)) (by kernel_rfl) (by kernel_rfl) FC.stab (D0.stab (w12)) (FC.stab _ _ HFC.out (Below.refl _ _).drew) (Below.refl _ _).drew ?_
          repeat (first | (refine wt_q rfl rfl ?_; apply Exists.intro; refine ⟨fun w' hw' => ?_, fun K hK => ?_⟩; (focus ((have q0 := hw'.get 0 rfl; have k3 := cellAt (o := 3) (v := .map (some ix)) q0 rfl; have qx := hw'.get 1 rfl; have d0 := cellAt (o := 0) qx rfl; have d1 := cellAt (o := 1) qx rfl; have hl := HLi.out w' ((hw'.get 2 rfl).trans HII.out.symm); have hl2 := HLr.out w' ((hw'.get 3 rfl).trans HRR.out.symm); clear q0 qx); go_simp; first | exact quiet_value | fail)); simp only [Act.put, List.setIfInBounds_toArray, List.set_cons_zero, List.set_cons_succ]; refine hK.out _ ?_; clear hK K) | (refine wt_skip rfl rfl (fun K hK => ?_); simp only [Act.put, List.setIfInBounds_toArray, List.set_cons_zero, List.set_cons_succ]; refine hK.out _ ?_; clear hK K))
          refine wt_bs 3 #[.int .i64 (x1 : Int)] rfl rfl rfl (fun w' hc hd => ?_) (fun K hK v => ?_)
          focus
            have HCd := Lib.hid (And.intro hc hd)
            clear hc hd
            go_simp
            exact bs_res HCd.out.1 HCd.out.2 rfl
          simp only [Act.put, List.setIfInBounds_toArray, List.set_cons_zero, List.set_cons_succ]
          refine hK.out _ _ _ ?_
          clear hK K
          refine wt_api (B := B + 1 + j) (v9 := v9) rfl rfl rfl (fun w' hc hd => ?_) (fun K hK v' => ?_)
          focus
            obtain ⟨u, w3, hrun, hres⟩ := api_run HI9.out (by have := HBl.out; have := HJ.out; omega) HFN.out hc hd 39
            exact st_ap (.tmp 121) (.tmp 123) rfl rfl rfl hrun hres
          simp only [Act.put, List.setIfInBounds_toArray, List.set_cons_zero, List.set_cons_succ]
          refine hK.out _ _ _ ?_
          clear hK K
          refine wt_nil ?_
          rintro w9 ⟨⟨hc9, _⟩, _⟩ ⟨w2, n9, xs9, hb9, hn9, hu9, ho9, huB9⟩
          obtain ⟨wz, hup, hCz, hOz, hvz⟩ := HCq.out.bump Try.underlying92 (fun k hk => (HG.out k).2 (.inr (by have := HSq.out; omega))) HRf.out.1 ⟨HRf.out.2.1, HRf.out.2.2.2⟩ HIr.out HI9.out hb9 ho9 hu9 hn9 huB9
          have HCz := Lib.hid hCz
          have HOz : Hid (Only (fun k => F k) w wz) := Lib.hid (HOq.out.then hOz (fun k hk e => by
            rcases e with e | e
            · exact ((HG.out k).1 (hvz k e).1).resolve_right (by omega)
            · rw [e] at hk ⊢
              exact ((HG.out r).1 HRf.out.1).resolve_right (by omega)))
          clear hCz hOz hvz hc9 hb9 hn9 hu9 ho9 huB9
          try simp only [List.drop_succ_cons, List.drop_zero]
          clear HXq HII HRR HLi HLr HI9 HIr HFN HFC HCq
          go_wp2_with fail
          go_roundw
          case rel => exact ⟨j + 1, by go_num, by have := HJ.out; omega, by rw [show B + 1 + (j + 1) = B + 1 + j + 1 by omega]; exact HCz, HOz⟩
          case measure => simp [intOf]; have := HJ.out; omega
      · have hkI : ¬ (j : Int) < (n : Int) := by omega
        have hn30 : n ≤ 30 := by have := HP.out.2.2.2.1.2.1; have := HP.out.1; omega
        have HJ : Hid (j ≤ 30) := Lib.hid (by omega)
        clear hn30
        go_wp2_with fail
        have e1 : (x1 : Nat) = r1 := by have := HR.out.1; unfold putI at this; rw [HI.out, if_pos h0', HN.out.2] at this; have := HX1.out; omega
        have e2 : X ++ [(m, L)] = R := by have := HR.out.2; unfold putT at this; rw [HI.out, if_pos h0'] at this; exact this
        subst e1 e2
        refine bodyPost_ret (v := .tuple #[.int .i64 (x1 : Int), .int .i64 0]) (by simp only [results, Try.results26]; go_simp) rfl ⟨rfl, ?_⟩
        obtain ⟨own', hCe⟩ := HS.out
        refine ⟨fun k => G k ∧ k < wr.heap.size, ?_, fun k hk => ⟨(HG.out k).1 hk.1, hk.2⟩, HOr.out⟩
        refine ⟨l6, by_, me, ix, own', B + 1 + j, _, hCe.weak (fun k hk hG => ⟨hG, hk⟩), ?_, ?_⟩
        · rw [List.map_append, HC.out.2.1]; rfl
        · rw [List.length_append, List.length_singleton]; have := HC.out.2.2; have := HJ.out; omega
  · obtain rfl : b = true := by rw [hb]; simp [h0']
    clear hb
    go_wp2_with fail
    have e1 : i = r1 := by have := HR.out.1; unfold putI at this; rw [HI.out, if_neg h0'] at this; exact this
    have e2 : X = R := by have := HR.out.2; unfold putT at this; rw [HI.out, if_neg h0'] at this; exact this
    subst e1 e2
    exact bodyPost_ret (v := .tuple #[.int .i64 (i : Int), .int .i64 0]) (by simp only [results, Try.results26]; go_simp) rfl ⟨rfl, Goes.below (TabO.obj _ _) HT.out HB3.out⟩
end Go.Proofs.Ytangcgfchalnaaa
