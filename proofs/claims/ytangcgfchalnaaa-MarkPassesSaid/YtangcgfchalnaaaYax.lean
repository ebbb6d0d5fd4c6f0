/- Parts of the proof: BtW. -/
import Derived.Test.YtangcgfchalnaaaYaw
/- mark: between: the places are gathered. -/
namespace Go.Proofs.Ytangcgfchalnaaa
open Go.RowKit
theorem plc_one : ∀ (L : List Plc), (∀ x ∈ L, x.2.1.oneCell' = true) → ∀ u ∈ rowF plc L, u.oneCell' = true := fun L hL u hu => by
  induction L with
  | nil => cases hu
  | cons x L ih =>
    simp only [rowF, List.mem_append, List.mem_cons, List.not_mem_nil, or_false] at hu
    rcases hu with (rfl | rfl) | hu
    · rfl
    · exact hL x List.mem_cons_self
    · exact ih (fun y hy => hL y (List.mem_cons_of_mem _ hy)) hu
theorem HpM.grow {w w9 : World} {B g N : Nat} {v v' : Value} {A : List Plc} {x : Plc} (h : HpM w B g v A) (hN : A.length = N) (hO : Only (fun k => v.ownBlock = some k) w w9) (hr9 : w9.ownsRow B 115 2 v' (N + 1) (rowF plc A ++ plc x)) (hu : v'.ownBlock = v.ownBlock ∨ ∃ k, v'.ownBlock = some k ∧ w.heap.size ≤ k)
    (hx0 : 0 < x.2.2.length) (hx : RowAt w (fun k => B ≤ k) 86 3 x.2.1 x.2.2.length (pcs x.2.2)) : HpM (w9.setCell ⟨g, 0, none⟩ v') B g v' (A ++ [x]) := by
  have hgl := only_lt h.box
  have hOs := Only.set w9 g 0 v'
  have hOt : Only (fun k => k = g ∨ v.ownBlock = some k) w (w9.setCell ⟨g, 0, none⟩ v') := (hO.mono (fun k _ e => .inr e)).trans (hOs.mono (fun k _ e => .inl e))
  have hne9 : v'.ownBlock ≠ some g := fun e => by
    rcases hu with e1 | ⟨k, e1, e2⟩
    · rw [e1] at e; exact h.gne e
    · rw [e1] at e; cases e; omega
  have b9 : w9.heap[g]? = some (.cells #[v] 112 (0, 0)) := hO.get h.box h.gne
  have hkeep : ∀ {y : Value} {n : Nat} {xs : List Value}, RowAt w (fun k => B ≤ k) 86 3 y n xs → RowAt (w9.setCell ⟨g, 0, none⟩ v') (fun k => B ≤ k) 86 3 y n xs := fun {y n xs} hy => hy.keep' hOt (fun k hk e => by
    obtain ⟨cur, h3⟩ := hy.ty k hk
    rcases e with e | e
    · rw [e, h.box] at h3; cases h3
    · obtain ⟨cu, h6⟩ := (or_at h.row).ty k e
      rw [h3] at h6; cases h6)
  refine ⟨h.gB, setCell_get (o := 0) b9, ?_, fun y hy => ?_⟩
  · rw [List.length_append, hN, rowF_append]
    have e : rowF plc [x] = plc x := by simp [rowF]
    rw [e]
    exact or_only hr9 hOs (fun k hk e => hne9 (by rw [← show k = g from e]; exact hk))
  · rcases List.mem_append.1 hy with hy | hy
    · exact ⟨(h.rest y hy).1, hkeep (h.rest y hy).2⟩
    · obtain rfl := List.mem_singleton.1 hy
      exact ⟨hx0, hkeep hx⟩
theorem allE_len {f u : Int} : ∀ {k : Nat} {Q : List (List Pt)}, (∀ P ∈ Q, P.length ≤ 65536) → (allE f u k Q).length ≤ Q.length * 65536
  | k, [], _ => by simp [allE]
  | k, P :: Q, h => by
    have h1 := allE_len (f := f) (u := u) (k := k + 1) (Q := Q) (fun R hR => h R (List.mem_cons_of_mem _ hR))
    have h2 := h P List.mem_cons_self
    have h3 : (rangeP f u P).length ≤ P.length := List.length_filter_le _ _
    simp only [allE, List.length_append, evs, List.length_map, List.length_cons]
    omega
/-- The places of the first buffers. -/
structure BtI (w : World) (g : Nat) (f u : Int) (Q : List (List Pt)) (k : Nat) (wr : World) (v : Value) (A : List Plc) : Prop where
  hp : HpM wr w.heap.size g v A
  ev : plE A = allE f u 0 (Q.take k)
  rise : ∀ y ∈ A, Rise y.2.2
  len : A.length ≤ k
  below : Below w.heap.size w wr
section
variable {w : World} {F : Nat → Prop} {own : Nat → Nat} {i t : Nat} {la mo pa : Int} {v : Value} {bs : List Nat} {S : List SrP} {f u : Int} {most : Nat}
theorem BtI.skip {w wr w2 : World} {g k : Nat} {Q : List (List Pt)} {v : Value} {A : List Plc} (h : BtI w g f u Q k wr v A) (hk : k < Q.length) (hb : Below wr.heap.size wr w2) (h0 : rangeP f u Q[k] = []) : BtI w g f u Q (k + 1) w2 v A where
  hp := h.hp.below hb
  ev := by
    rw [h.ev, ← List.take_append_getElem hk, allE_snoc, h0]
    simp [evs]
  rise := h.rise
  len := Nat.le_succ_of_le h.len
  below := h.below.trans (hb.mono h.below.size)
theorem BtI.more {w wr w2 w3 : World} {g k N : Nat} {Q : List (List Pt)} {v v' : Value} {A : List Plc} {sl : Value} {L : List Pt} (h : BtI w g f u Q k wr v A) (hg : g = w.heap.size) (hk : k < Q.length) (hb : Below wr.heap.size wr w2) (hN : A.length = N) (hO : Only (fun k => v.ownBlock = some k) w2 w3) (hr9 : w3.ownsRow w.heap.size 115 2 v' (N + 1) (rowF plc A ++ rowF plc [(k + 1, sl, L)])) (hu : v'.ownBlock = v.ownBlock ∨ ∃ k, v'.ownBlock = some k ∧ w2.heap.size ≤ k)
    (hx0 : 0 < L.length) (hx : w2.ownsRow wr.heap.size 86 3 sl L.length (pcs L)) (hL : rangeP f u Q[k] = L) (hR : Rise L) : BtI w g f u Q (k + 1) (w3.setCell ⟨g, 0, none⟩ v') v' (A ++ [(k + 1, sl, L)]) where
  hp := (h.hp.below hb).grow hN hO (by simpa [rowF] using hr9) hu hx0 ((or_at hx).weak (fun k _ hk => Nat.le_trans h.below.size hk))
  ev := by
    have hl : (Q.take k).length = k := by rw [List.length_take]; omega
    rw [← List.take_append_getElem hk, allE_snoc, hL, hl, Nat.zero_add, ← h.ev]
    unfold plE
    rw [List.flatMap_append]
    simp
  rise := fun y hy => by
    rcases List.mem_append.1 hy with hy | hy
    · exact h.rise y hy
    · obtain rfl := List.mem_singleton.1 hy
      exact hR
  len := by rw [List.length_append, List.length_singleton]; have := h.len; omega
  below := by
    have hs := h.below.size
    have hs2 := hb.size
    refine h.below.trans ((Only.below (S := fun k => w.heap.size ≤ k) ?_ (fun k e => e) hs))
    exact (Only.of_below hb).then ((hO.mono (T := fun k => w.heap.size ≤ k) (fun k _ e => (World.ownsRow.lt h.hp.row k e).1)).trans ((Only.set w3 g 0 v').mono (fun k _ e => by have e : k = g := e; omega))) (fun k _ e => e)
/-- A series is told. -/
def FrS (B : Nat) (m : ByteArray) (ln : Nat) (L : List Lb) (v : Value) (W : World) : Prop := ∃ A c, v = .tuple #[.agg #[.string m, .slice A ln c], .bool true] ∧ W.ownsRow B 90 2 (.slice A ln c) ln (lbF L)
theorem FrS.stab (B : Nat) (m : ByteArray) (ln : Nat) (L : List Lb) (v : Value) : Stab (FrS B m ln L v) := fun _ _ ⟨A, c, h1, h2⟩ hb => ⟨A, c, h1, or_below h2 hb⟩
/-- A series' variable, new. -/
def SrB (B : Nat) (v : Value) (W : World) : Prop := ∃ H, v = .pointer (some ⟨H, 0, none⟩) ∧ B ≤ H ∧ W.heap[H]? = some (.cells #[.string ⟨#[]⟩, .slice none 0 0] 32 (0, 0))
theorem SrB.stab (B : Nat) (v : Value) : Stab (SrB B v) := fun _ _ ⟨H, h1, h2, h3⟩ hb => ⟨H, h1, h2, keepB h3 hb⟩
def SrH (H : Nat) (m : ByteArray) (A : Option Addr) (n c : Nat) (W : World) : Prop := W.heap[H]? = some (.cells #[.string m, .slice A n c] 32 (0, 0))
theorem SrH.stab (H : Nat) (m : ByteArray) (A : Option Addr) (n c : Nat) : Stab (SrH H m A n c) := fun _ _ h hb => keepB h hb
theorem sr_step {w3 w' : World} {H ln n c : Nat} {m m' : ByteArray} {A : Option Addr} {L : List Lb} {v a b : Value} (hb : Below w3.heap.size w3 w') (hf : FrS w3.heap.size m ln L v w') (hH : w3.heap.size ≤ H) (hz : w'.heap[H]? = some (.cells #[a, b] 32 (0, 0))) :
    Below w3.heap.size w3 ((w'.setCell ⟨H, 0, none⟩ (.string m')).setCell ⟨H, 1, none⟩ (.slice A n c)) ∧ FrS w3.heap.size m ln L v ((w'.setCell ⟨H, 0, none⟩ (.string m')).setCell ⟨H, 1, none⟩ (.slice A n c)) ∧ SrH H m' A n c ((w'.setCell ⟨H, 0, none⟩ (.string m')).setCell ⟨H, 1, none⟩ (.slice A n c)) := by
  have ho : Only (fun k => k = H) w' ((w'.setCell ⟨H, 0, none⟩ (.string m')).setCell ⟨H, 1, none⟩ (.slice A n c)) := (Only.set w' H 0 _).trans (Only.set _ H 1 _)
  refine ⟨hb.trans (ho.below (fun k e => by have e : k = H := e; omega) hb.size), ?_, setCell_get (o := 1) (setCell_get (o := 0) hz)⟩
  obtain ⟨A', c', h1, h2⟩ := hf
  refine ⟨A', c', h1, or_only h2 ho (fun k hk e => ?_)⟩
  obtain ⟨cu, h3⟩ := (or_at h2).ty k hk
  rw [show k = H from e, hz] at h3
  cases h3
theorem ta_place (v : Value) (w : World) : (Instr.typeAssert (.iface 115 v) 20 115 false).run Try.prog w = .ok v w := by kernel_rfl
/-- Samples are told. -/
def BtP (w : World) (S : List SrP) (M : List Ev) (e : Ending) (w' : World) : Prop := ∃ ov X, e = .returned ov ∧ OutM w' w.heap.size ov X ∧ X.map smC = M.map (smE S) ∧ Below w.heap.size w w'
set_option maxHeartbeats 8000000 in
set_option maxRecDepth 100000 in
theorem between_any {M : List Ev} (h : IntO i la mo pa S w F) (hm : most ≤ 4611686018427387904) (hM : btE f u (S.map (fun y : SrP => y.2)) = M) : Calls Try.prog 31 #[iptr i, .int .i64 f, .int .i64 u, .int .i64 (most : Int)] w (BtP w S (M.take most)) := by
  obtain ⟨hk, own, t, v, bs, h⟩ := h
  have CR := Lib.hid (fun W (hb : Below w.heap.size w W) => mright_any (h.below hb))
  obtain ⟨A0, c0, rfl, hrowl⟩ := h.row.form
  obtain ⟨n, hn⟩ : ∃ n, bs.length = n := ⟨_, rfl⟩
  have hn24 : n ≤ 1024 := by rw [← hn, h.len]; exact hk.len
  have b5 : w.heap[i]? = some (ikC la mo pa t (.slice A0 n c0)) := by rw [← hn]; exact h.box
  have HBx := Lib.hid b5
  obtain ⟨Q, hQ⟩ : ∃ Q, S.map (fun y : SrP => y.2) = Q := ⟨_, rfl⟩
  have hQn : Q.length = n := by rw [← hQ, List.length_map, ← h.len, hn]
  have HQn := Lib.hid hQn
  have HQ := Lib.hid hQ
  have HI := Lib.hid (And.intro h hk)
  have hRise : ∀ P ∈ Q, Rise P := fun P hP => by
    rw [← hQ] at hP
    obtain ⟨y, hy, rfl⟩ := List.mem_map.1 hP
    obtain ⟨j, hj, rfl⟩ := List.mem_iff_getElem.1 hy
    exact BufL.rise (h.buf j (by rw [h.len]; exact hj) hj)
  have HRise := Lib.hid hRise
  have HN := Lib.hid hn
  -- a buffer, in a later world
  have HBuf : Hid (∀ k (hk : k < n) W, Below w.heap.size w W → ∃ ad c b, Value.slice A0 n c0 = .slice (some ad) n c ∧ W.cell? (ad.add k) = some (bptr b) ∧ ∃ (hq : k < Q.length) (G : Nat → Prop), BufO b Q[k] 0 W G) := Lib.hid (fun k hk W hb => by
    have hW := h.below hb
    have hkb : k < bs.length := by omega
    have hkS : k < S.length := by rw [← h.len]; exact hkb
    obtain ⟨ad, c, hv, hc⟩ := hW.row_cell hkb
    refine ⟨ad, c, bs[k], by rw [← hn]; exact hv, hc, by omega, fun j => F j ∧ own j = k + 3, ?_⟩
    have hb3 := hW.buf k hkb hkS
    have e : ∀ (hq : k < Q.length), Q[k] = S[k].2 := fun hq => by subst hQ; rw [List.getElem_map]
    rw [e]
    exact hb3)
  have k5 := cellAt (o := 5) b5 rfl
  have HA0 := Lib.hid (And.intro (newB w (.cells #[.slice none 0 0] 112)) (below_alloc (Below.refl w.heap.size w) (.cells #[.slice none 0 0] 112)))
  have b6 := keepA b5 (.cells #[.slice none 0 0] 112)
  have k6 := cellAt (o := 5) b6 rfl
  have hMs : SrtE M := by rw [← hM, hQ]; exact btE_srt hRise
  have hMp : M.Perm (allE f u 0 Q) := by rw [← hM, hQ]; exact btE_perm f u Q
  have hMl : M.length ≤ 67108864 := by
    rw [hMp.length_eq]
    have h1 := allE_len (f := f) (u := u) (k := 0) (Q := Q) (fun P hP => by
      rw [← hQ] at hP
      obtain ⟨y, hy, rfl⟩ := List.mem_map.1 hP
      obtain ⟨j, hj, rfl⟩ := List.mem_iff_getElem.1 hy
      obtain ⟨_, _, _, _, _, hl⟩ := h.buf j (by rw [h.len]; exact hj) hj
      exact hl)
    have : Q.length * 65536 ≤ 1024 * 65536 := Nat.mul_le_mul_right _ (by omega)
    omega
  have HMl := Lib.hid hMl
  have HMM := Lib.hid (And.intro hMs hMp)
  clear h hk hrowl hn hQn hQ hRise b5 b6 hMs hMp hM hMl
  go_enter Try.func31, Try.ntmps31
  go_wp2_with fail
  refine (CR.out _ (Below.refl _ _)).mono ?_
  rintro e w1 ⟨rfl, rfl⟩
  go_wp2_with fail
  clear k5 k6
  go_loopw [25] (fun iv wr => ∃ (k : Nat), iv = .int .i64 (k : Int) ∧ k ≤ n ∧ Hid (∃ v A, BtI w w.heap.size f u Q k wr v A)) (fun iv _ => n - (intOf iv).toNat)
  case atStart => exact ⟨0, rfl, by omega, Lib.hid ⟨.slice none 0 0, [], ⟨Nat.le_refl _, HA0.out.1, World.ownsRow_nil _ _ _ _, by simp⟩, rfl, by simp, Nat.le_refl _, HA0.out.2⟩⟩
  case round =>
    obtain ⟨k, rfl, hkn, HS⟩ := hrel
    obtain ⟨v, A, hS⟩ := HS.out
    have HS := Lib.hid hS
    by_cases h0 : k < n
    · obtain ⟨ad, c, b, hv0, hc, hq, G, hB⟩ := HBuf.out k h0 wr hS.below
      obtain ⟨rfl, rfl⟩ : A0 = some ad ∧ c0 = c := by simpa using hv0
      obtain ⟨Pk, hPk⟩ : ∃ P, Q[k] = P := ⟨_, rfl⟩
      rw [hPk] at hB
      obtain ⟨L, hL⟩ : ∃ L, rangeP f u Pk = L := ⟨_, rfl⟩
      obtain ⟨m, hm⟩ : ∃ m, L.length = m := ⟨_, rfl⟩
      have CRg := Lib.hid (range_go f u hL hm hB)
      have HL := Lib.hid (And.intro hL hm)
      have HPq : Hid (∃ hq : k < Q.length, Q[k] = Pk) := Lib.hid ⟨hq, hPk⟩
      have hkI : (k : Int) < (n : Int) := by omega
      have hw : IntKind.i64.wrap ((k : Int) + 1) = ((k + 1 : Nat) : Int) := by rw [IntKind.wrap_i64]; omega
      clear hS hv0 hB hPk hL hm hq
      go_wp2_with fail
      refine CRg.out.mono ?_
      rintro e w2 ⟨RA, rc, rfl, hRow, hb2⟩
      have H2 := Lib.hid (And.intro hRow hb2)
      clear hRow hb2 CRg hc
      by_cases hm0 : m = 0
      · have HM0 := Lib.hid hm0
        have hmI : ¬ (0 : Int) < (m : Int) := by omega
        have hmN : ¬ 0 < m := by omega
        clear hm0
        go_wp2_with fail
        go_roundw
        case rel =>
          obtain ⟨hq, hqe⟩ := HPq.out
          refine ⟨k + 1, by go_num, by omega, Lib.hid ⟨v, A, HS.out.skip hq H2.out.2 ?_⟩⟩
          rw [hqe, HL.out.1]
          exact List.eq_nil_of_length_eq_zero (by rw [HL.out.2]; exact HM0.out)
        case measure => simp [intOf]; omega
      · have hmI : (0 : Int) < (m : Int) := by omega
        have hmN : 0 < m := by omega
        obtain ⟨va, vc, rfl⟩ := or_form HS.out.hp.row
        obtain ⟨N, hN⟩ : ∃ N, A.length = N := ⟨_, rfl⟩
        have hM2 := HS.out.hp.below H2.out.2
        have hb2 := hM2.box
        have hr2 := hM2.row
        rw [hN] at hb2 hr2
        have k0 := cellAt (o := 0) hb2 rfl
        have HA := Lib.hid (below_alloc (Below.refl w2.heap.size w2) (.cells #[.int .i64 ((k + 1 : Nat) : Int), .slice RA m rc] 115))
        have HAn := Lib.hid (newB w2 (.cells #[.int .i64 ((k + 1 : Nat) : Int), .slice RA m rc] 115))
        have HO := Lib.hid (or_below hr2 HA.out)
        have HM2 := Lib.hid hM2
        have HNN := Lib.hid hN
        have HRd : Hid (Reads (w2.alloc (.cells #[.int .i64 ((k + 1 : Nat) : Int), .slice RA m rc] 115)) (w2.alloc (.cells #[.int .i64 ((k + 1 : Nat) : Int), .slice RA m rc] 115)).heap.size 2 (some ⟨w2.heap.size, 0, none⟩) 1 (rowF plc [(k + 1, Value.slice RA m rc, L)])) := Lib.hid ⟨rfl, fun _ => ⟨_, rfl, only_lt HAn.out, World.news_of_block (by simpa [rowF, plc] using HAn.out)⟩⟩
        have hN24 : N ≤ 1024 := by have := HS.out.len; omega
        have hB : w.heap.size ≤ (w2.alloc (.cells #[.int .i64 ((k + 1 : Nat) : Int), .slice RA m rc] 115)).heap.size := by
          have h1 := HS.out.below.size; have h2 := H2.out.2.size; have h3 := HA.out.size; omega
        have HBs := Lib.hid hB
        clear hN hM2 hb2 hr2 hB
        obtain ⟨i0, hi0, hz0, hz1, hz2⟩ := info_parts infoPl
        have HI0 := Lib.hid (And.intro hi0 (And.intro hz0 (And.intro hz1 hz2)))
        clear hi0 hz0 hz1 hz2
        go_wp2_with (at_builtin; go_loud (refine wpList_append_any _ rfl _ _ 112 rfl w.heap.size 115 i0 _ 2 32 Try.underlying112 HI0.out.1 HI0.out.2.1 HI0.out.2.2.1 HI0.out.2.2.2 rfl (by omega) _ N (rowF plc A) rfl HO.out _ (some ⟨w2.heap.size, 0, none⟩) 1 1 (rowF plc [(k + 1, Value.slice RA m rc, L)]) rfl HRd.out (plc_one _ (fun x hx => by rw [List.mem_singleton.1 hx]; rfl)) (by unfold maxLen; omega) (by omega) HBs.out ?_))
        intro v' w3 hr3 hg3 hu3
        have hO3 : Only (fun k => (Value.slice va N vc).ownBlock = some k) w2 w3 := (Only.of_below HA.out).trans ⟨hg3.os, hg3.tape, hg3.output, hg3.size, fun i hi hn => hg3.block i hi (fun e => hn e.symm)⟩
        have hgn := HM2.out.gne
        rw [HNN.out] at hgn
        have b3 : w3.heap[w.heap.size]? = some (.cells #[.slice va N vc] 112 (0, 0)) := hO3.get (by rw [← HNN.out]; exact HM2.out.box) hgn
        have k0' := cellAt (o := 0) b3 rfl
        have f0' := freeAt 0 b3
        obtain ⟨a3, c3, rfl⟩ := or_form hr3
        have H3 := Lib.hid (And.intro hr3 (And.intro hO3 hu3))
        clear hr3 hg3 hu3 hO3 hgn b3 k0
        go_wp2_with fail
        go_roundw
        case rel =>
          obtain ⟨hq, hqe⟩ := HPq.out
          obtain ⟨hr3, hO3, hu3⟩ := H3.out
          obtain ⟨hL, hm⟩ := HL.out
          subst hm
          refine ⟨k + 1, by go_num, by omega, Lib.hid ⟨_, _, HS.out.more rfl hq H2.out.2 HNN.out (by rw [HNN.out]; exact hO3) hr3 ?_ hmN H2.out.1 (by rw [hqe]; exact hL) ?_⟩⟩
          · rw [HNN.out]
            exact hu3.imp id (fun e => ⟨_, e, Nat.le_succ _⟩)
          · rw [← hL]
            exact List.Pairwise.filter _ (by rw [← hqe]; exact HRise.out _ (List.getElem_mem hq))
        case measure => simp [intOf]; omega
    · have hkI : ¬ (k : Int) < (n : Int) := by omega
      have HKn : Hid (k = n) := Lib.hid (by omega)
      have CI := Lib.hid (hinit_any hS.hp (by have := hS.len; omega))
      clear hS
      go_wp2_with fail
      refine CI.out.mono ?_
      rintro e w2 ⟨⟨uu, rfl⟩, A2, hM2, hP2, hH2, hO2⟩
      have hB2 : Bt2 w S M 0 w2 v A2 (.slice none 0 0) [] := by
        have hs := HS.out
        refine ⟨hM2, hH2, ?_, fun y hy => hs.rise y (hP2.mem_iff.1 hy), ⟨World.ownsRow_nil _ _ _ _, by simp⟩, by simp, rfl, Nat.zero_le _, ?_, ?_⟩
        · rw [List.drop_zero]
          refine HMM.out.2.trans ?_
          have he := hs.ev
          rw [HKn.out, List.take_of_length_le (by rw [HQn.out]; exact Nat.le_refl _)] at he
          rw [← he]
          exact (plE_perm hP2).symm
        · rw [hP2.length_eq]; have := hs.len; omega
        · exact hs.below.trans (hO2.below (fun k e => (World.ownsRow.lt hs.hp.row k e).1) hs.below.size)
      have HB2 := Lib.hid hB2
      clear hM2 hP2 hH2 hO2 hB2 CI
      go_wp2_with fail
      go_loopw [13] (fun ov wr => ∃ (j : Nat), vLen ov = j ∧ j ≤ most ∧ j ≤ M.length ∧ Hid (∃ v A X, Bt2 w S M j wr v A ov X)) (fun ov _ => M.length - vLen ov)
      case atStart => exact ⟨0, rfl, Nat.zero_le _, Nat.zero_le _, Lib.hid ⟨v, A2, [], HB2.out⟩⟩
      clear HB2
      case round =>
        obtain ⟨j, hj, hjm, hjM, HT⟩ := hrel
        obtain ⟨pv, PA, X, hT⟩ := HT.out
        have HT := Lib.hid hT
        obtain ⟨oA, oc, rfl⟩ := or_form hT.out.row
        obtain rfl : X.length = j := hj
        obtain ⟨J, hJ⟩ : ∃ J, X.length = J := ⟨_, rfl⟩
        rw [hJ] at hjm hjM
        obtain ⟨pA, pC, rfl⟩ := or_form hT.hp.row
        obtain ⟨N, hN⟩ : ∃ N, PA.length = N := ⟨_, rfl⟩
        have hb := hT.hp.box
        rw [hN] at hb
        have k0 := cellAt (o := 0) hb rfl
        have HNJ := Lib.hid (And.intro hJ hN)
        have hN24 : N ≤ 1024 := by have := hT.len; omega
        by_cases h0 : N = 0
        · have HN0 := Lib.hid h0
          have h0N : ¬ 0 < N := by omega
          have h0I : ¬ (0 : Int) < (N : Int) := by omega
          clear h0 hT hb
          rw [hJ]
          go_wp2_with fail
          have hT := HT.out
          refine bodyPost_ret (v := .slice oA J oc) (by simp only [results, Try.results31]; go_simp) rfl ⟨_, X, rfl, by rw [HNJ.out.1] at hT; exact hT.out, ?_, hT.below⟩
          have hev := hT.ev
          rw [List.eq_nil_of_length_eq_zero (HNJ.out.2.trans HN0.out)] at hev
          have e0 : M.drop X.length = [] := List.perm_nil.1 (by simpa [plE] using hev)
          have e1 : M.length ≤ X.length := by have := congrArg List.length e0; rw [List.length_drop] at this; simpa using Nat.sub_eq_zero_iff_le.1 (by simpa using this)
          rw [hT.xs, List.take_of_length_le e1, List.take_of_length_le (by have := HNJ.out.1; omega)]
        · have h0N : 0 < N := by omega
          have h0I : (0 : Int) < (N : Int) := by omega
          by_cases hmm : J < most
          · have hmI : (J : Int) < (most : Int) := by omega
            obtain ⟨x, hx⟩ : ∃ x, PA.getD 0 plD = x := ⟨_, rfl⟩
            have hxm : x ∈ PA := by rw [← hx, List.getD_eq_getElem?_getD, List.getElem?_eq_getElem (by omega)]; exact List.getElem_mem _
            obtain ⟨hx0, hxr⟩ := hT.hp.rest x hxm
            obtain ⟨x1, x2, x3⟩ := x
            obtain ⟨q, P, rfl⟩ : ∃ q P, x3 = q :: P := by cases x3 with | nil => exact absurd hx0 (by simp) | cons q P => exact ⟨q, P, rfl⟩
            obtain ⟨gx, ox, cx, rfl, hcx, _⟩ := place_next hxr
            obtain ⟨np, hnp⟩ : ∃ n, P.length + 1 = n := ⟨_, rfl⟩
            obtain ⟨R, hRe⟩ : ∃ R, M.drop X.length = (q.1, x1, q.2) :: R := by
              have hmin : ∀ y ∈ PA, ltP y (x1, .slice (some ⟨gx, ox, none⟩) (P.length + 1) cx, q :: P) = false := fun y hy => by
                obtain ⟨a, ha, rfl⟩ := List.mem_iff_getElem.1 hy
                have := hT.heap.min ltP_tot a ha
                rw [hx, List.getD_eq_getElem?_getD, List.getElem?_eq_getElem ha] at this
                exact this
              obtain ⟨A1, B1, hAB⟩ := List.append_of_mem hxm
              have hA' : ((x1, Value.slice (some ⟨gx, ox, none⟩) (P.length + 1) cx, q :: P) :: (A1 ++ B1)).Perm PA := by rw [hAB]; exact List.perm_middle.symm
              obtain ⟨R', h1, _⟩ := heap_first (HMM.out.1.sublist (List.drop_sublist _ _)) hT.ev hA' hmin hT.rise rfl
              exact ⟨R', h1⟩
            have CP := hpop_any hT.hp (by omega) (by omega) hT.heap
            rw [hx] at CP
            dsimp only [plV] at CP
            rw [hnp] at CP
            have HCP := Lib.hid CP
            have HX := Lib.hid (And.intro hx (And.intro hxm hxr))
            have HR := Lib.hid hRe
            have HNP := Lib.hid hnp
            have hnp0 : 0 < np := by omega
            have hnpI : (0 : Int) < (np : Int) := by omega
            rw [hnp] at hcx
            have HCX := Lib.hid hcx
            clear hnp hcx
            clear CP hx hxm hx0 hxr hT hb hRe
            rw [hJ]
            go_wp2_with fail
            refine HCP.out.mono ?_
            rintro e w2 ⟨rfl, v2, A2, hM2, hP2, hH2, hv2, hO2⟩
            have H2 := Lib.hid (And.intro hM2 (And.intro hP2 (And.intro hH2 (And.intro hv2 hO2))))
            have hta := ta_place (.agg #[.int .i64 (x1 : Int), .slice (some ⟨gx, ox, none⟩) np cx]) w2
            clear hM2 hP2 hH2 hv2 hO2 HCP
            go_wp2_with fail
            clear hta k0
            -- the series
            have hin : (q.1, x1, q.2) ∈ allE f u 0 Q := HMM.out.2.mem_iff.1 ((List.drop_sublist X.length M).subset (by rw [HR.out]; exact List.mem_cons_self))
            have hid := allE_id hin
            simp only at hid
            have hSl : S.length = n := by have := HQn.out; rw [← HQ.out, List.length_map] at this; exact this
            have hx1 : x1 - 1 < (S.map (fun y : SrP => y.1)).length := by rw [List.length_map]; have := HQn.out; omega
            obtain ⟨⟨m, L⟩, hmL⟩ : ∃ y, (S.map (fun y : SrP => y.1))[x1 - 1] = y := ⟨_, rfl⟩
            obtain ⟨ln, hln⟩ : ∃ l, L.length = l := ⟨_, rfl⟩
            have CS : Hid (∀ W, Below w.heap.size w W → Calls Try.prog 63 #[tptr t, .int .i64 (x1 : Int)] W fun e w' => ∃ A c, e = .returned (.tuple #[.agg #[.string m, .slice A ln c], .bool true]) ∧ w'.ownsRow W.heap.size 90 2 (.slice A ln c) ln (lbF L) ∧ Below W.heap.size W w') := Lib.hid (fun W hb => by
              have := tser_any (HI.out.1.below hb).tab (show x1 = (x1 - 1) + 1 by omega) hx1 hmL (by rw [List.length_map, hSl]; omega)
              rw [hln] at this
              exact this)
            have HmL : Hid ((S.map (fun y : SrP => y.1)).getD (x1 - 1) (⟨#[]⟩, []) = (m, L) ∧ L.length = ln) := Lib.hid ⟨by rw [List.getD_eq_getElem?_getD, List.getElem?_eq_getElem hx1, hmL]; rfl, hln⟩
            clear hin hid hSl hx1 hmL hln
            obtain ⟨w3, hw3⟩ : ∃ W, w2.alloc (.cells #[.int .i64 (x1 : Int), .slice (some ⟨gx, ox, none⟩) np cx] 115) = W := ⟨_, rfl⟩
            have hx3 := newB w2 (.cells #[.int .i64 (x1 : Int), .slice (some ⟨gx, ox, none⟩) np cx] 115)
            have hb23 := below_alloc (Below.refl w2.heap.size w2) (.cells #[.int .i64 (x1 : Int), .slice (some ⟨gx, ox, none⟩) np cx] 115)
            have hs23 : w3.heap.size = w2.heap.size + 1 := by rw [← hw3, alloc_size]
            rw [hw3] at hx3 hb23 ⊢
            have HX3 := Lib.hid (And.intro hx3 (And.intro hb23 hs23))
            have HBw3 : Hid (Below w.heap.size w w3) := Lib.hid (by
              have hs := HT.out.below.size
              obtain ⟨_, _, _, _, hO2⟩ := H2.out
              have h1 := HT.out.below.trans (hO2.below HT.out.hp.turnsB hs)
              exact h1.trans (hb23.mono (by have := hO2.size; omega)))
            have HBx3 : Hid (w3.heap[i]? = some (ikC la mo pa t (.slice A0 n c0))) := Lib.hid (keepB HBx.out HBw3.out)
            clear hw3 hx3 hb23 hs23
            refine wp_region_forkX 13 (.q 0 (.q 1 (.q 2 (.q 3 (.q 4 (.q 5 (.alt 6 (.q 7 (.q 8 (.q 9 (.alt 10 (.alt 11 (.q 12 .nil) .stop) .stop)))) (.alt 10 (.alt 6 (.q 7 (.q 8 (.q 9 (.alt 11 (.q 12 .nil) .stop)))) .stop) .stop)))))))) (Below w3.heap.size w3) Triv (by kernel_rfl) (by kernel_rfl) (Stab.below _ _ (Nat.le_refl _)) (fun _ _ _ _ => triv _) ((Below.refl _ _).drew) (triv _) ?_
            repeat (first | (refine wf_qX rfl rfl ?_; apply Exists.intro; refine ⟨fun w' hw' => ?_, fun K hK => ?_⟩; (focus ((have k4 := cellAt (o := 4) (v := tptr t) (keepB HBx3.out hw') rfl; have y0 := cellAt (o := 0) (v := .int .i64 (x1 : Int)) (keepB HX3.out.1 hw') rfl); go_simp; first | exact quiet_value | fail)); simp only [Act.put, List.setIfInBounds_toArray, List.set_cons_zero, List.set_cons_succ]; refine hK.out _ ?_; clear hK K) | (refine wf_skipX rfl rfl (fun K hK => ?_); simp only [Act.put, List.setIfInBounds_toArray, List.set_cons_zero, List.set_cons_succ]; refine hK.out _ ?_; clear hK K) | (refine wf_skipuX rfl rfl (fun K hK => ?_); simp only [Act.put, List.setIfInBounds_toArray, List.set_cons_zero, List.set_cons_succ]; refine hK.out _ ?_; clear hK K))
            refine wf_stepEX (fun v => ∃ A c, v = .tuple #[.agg #[.string m, .slice A ln c], .bool true]) (FrS w3.heap.size m ln L) (fun _ => Triv) (FrS.stab _ _ _ _) (fun _ _ _ _ _ => triv _) rfl rfl (by kernel_rfl) (fun C D a hC w' hw => (hC w' hw).elim) (fun w' hc hd => ?_) (fun K hK v hv => ?_) ?_
            focus
              have HCd := Lib.hid hc
              clear hc hd
              go_simp
              refine st_enterX ?_
              exact (CS.out _ (HBw3.out.trans (HCd.out.mono HBw3.out.size))).mono fun e w'' ⟨A, c, h1, h2, h3⟩ => ⟨_, h1, ⟨A, c, rfl⟩, HCd.out.trans (h3.mono HCd.out.size), ⟨A, c, rfl, or_base h2 HCd.out.size⟩, triv _⟩
            focus
              obtain ⟨A3, c3, rfl⟩ := hv
              simp only [Act.put, List.setIfInBounds_toArray, List.set_cons_zero, List.set_cons_succ]
              refine hK.out _ _ _ ?_
              clear hK K
              repeat (first | (refine wf_qX rfl rfl ?_; apply Exists.intro; refine ⟨fun w' hw' => ?_, fun K hK => ?_⟩; (focus ((skip); go_simp; first | exact quiet_value | fail)); simp only [Act.put, List.setIfInBounds_toArray, List.set_cons_zero, List.set_cons_succ]; refine hK.out _ ?_; clear hK K) | (refine wf_skipX rfl rfl (fun K hK => ?_); simp only [Act.put, List.setIfInBounds_toArray, List.set_cons_zero, List.set_cons_succ]; refine hK.out _ ?_; clear hK K) | (refine wf_skipuX rfl rfl (fun K hK => ?_); simp only [Act.put, List.setIfInBounds_toArray, List.set_cons_zero, List.set_cons_succ]; refine hK.out _ ?_; clear hK K))
              refine wf_stepEX (fun v => ∃ H, v = .pointer (some ⟨H, 0, none⟩) ∧ w3.heap.size ≤ H) (fun _ => Triv) (SrB w3.heap.size) (fun _ _ _ _ _ => triv _) (SrB.stab _) rfl rfl (by kernel_rfl) (fun C D a hC w' hw => (hC w' hw).elim) (fun w' hc hd => ?_) (fun K hK v hv => ?_) wf_stopX
              focus
                have HCd := Lib.hid hc
                clear hc hd
                go_simp
                exact ⟨⟨_, rfl, HCd.out.1.size⟩, ⟨below_alloc HCd.out.1 _, FrS.stab _ _ _ _ _ _ _ HCd.out.2 (below_alloc (Below.refl _ _) _)⟩, triv _, _, rfl, HCd.out.1.size, newB _ _⟩
              obtain ⟨H, rfl, hH⟩ := hv
              simp only [Act.put, List.setIfInBounds_toArray, List.set_cons_zero, List.set_cons_succ]
              refine hK.out _ _ _ ?_
              clear hK K
              refine wf_stepEX (fun _ => True) (fun _ => Triv) (fun _ => SrH H m A3 ln c3) (fun _ _ _ _ _ => triv _) (fun _ => SrH.stab _ _ _ _ _) rfl rfl (by kernel_rfl) (fun C D a hC w' hw => (hC w' hw).elim) (fun w' hc hd => ?_) (fun K hK v hv => ?_) wf_stopX
              focus
                obtain ⟨H', e, _, hz⟩ := hd
                cases e
                have HCd := Lib.hid (And.intro hc hz)
                have z0 := cellAt (o := 0) hz rfl
                have z1 := cellAt (o := 1) hz rfl
                have f0 := freeAt 0 hz
                have f1 := freeAt 1 hz
                clear hc hz
                go_simp
                obtain ⟨r1, r2, r3⟩ := sr_step (n := ln) (c := c3) (m' := m) (A := A3) HCd.out.1.1.1 HCd.out.1.1.2 hH HCd.out.2
                exact ⟨trivial, ⟨⟨r1, r2⟩, triv _⟩, triv _, r3⟩
              simp only [Act.put]
              refine hK.out _ _ _ ?_
              clear hK K
              repeat (first | (refine wf_qX rfl rfl ?_; apply Exists.intro; refine ⟨fun w' hw' => ?_, fun K hK => ?_⟩; (focus ((skip); go_simp; first | exact quiet_value | fail)); simp only [Act.put, List.setIfInBounds_toArray, List.set_cons_zero, List.set_cons_succ]; refine hK.out _ ?_; clear hK K) | (refine wf_skipX rfl rfl (fun K hK => ?_); simp only [Act.put, List.setIfInBounds_toArray, List.set_cons_zero, List.set_cons_succ]; refine hK.out _ ?_; clear hK K) | (refine wf_skipuX rfl rfl (fun K hK => ?_); simp only [Act.put, List.setIfInBounds_toArray, List.set_cons_zero, List.set_cons_succ]; refine hK.out _ ?_; clear hK K))
              refine wf_nilX ?_
              rintro w5 ⟨⟨⟨hb5, hf5⟩, _⟩, _⟩ hd5
              have H5 := Lib.hid (And.intro hb5 (And.intro hf5 (And.intro hd5 hH)))
              clear hb5 hf5 hd5 hH
              (try simp only [List.drop_succ_cons]); (try simp only [List.drop_zero]); (try simp only [List.drop_nil])
              go_wp2_with fail
              have hpt : RowAt w5 (fun k => w.heap.size ≤ k) 86 3 (.slice (some ⟨gx, ox, none⟩) (P.length + 1) cx) (q :: P).length (pcs (q :: P)) :=
                ((HX.out.2.2.keep' H2.out.2.2.2.2 (fun k hk e => by
                  obtain ⟨cur, h3⟩ := HX.out.2.2.ty k hk
                  rcases e with e | e
                  · have := HT.out.hp.box; rw [← e, h3] at this; cases this
                  · obtain ⟨cu, h6⟩ := (or_at HT.out.hp.row).ty k e
                    rw [h3] at h6; cases h6)).below HX3.out.2.1).below H5.out.1
              have HPt := Lib.hid hpt
              obtain ⟨curP, hcurP⟩ := hpt.ty gx rfl
              obtain ⟨g', o', c', e', hle', hp0, hp1, hnx⟩ := place_next hpt
              cases e'
              have hcp0 : curP[ox]? = some (.int .i64 q.1) := by rw [← hp0]; simp [World.cell?, hcurP]
              have hcp1 : curP[ox + 1]? = some (.int .i64 q.2) := by rw [← hp1]; simp [World.cell?, hcurP]
              have hOut5 : OutM w5 w.heap.size (.slice oA J oc) X := by
                have h := HT.out.out
                rw [HNJ.out.1] at h
                refine ((h.keepT H2.out.2.2.2.2 HT.out.hp.turns).below HX3.out.2.1).below H5.out.1
              have hM5 : HpM w5 w.heap.size w.heap.size v2 A2 := (H2.out.1.below HX3.out.2.1).below H5.out.1
              have HO5 := Lib.hid hOut5
              have HM5 := Lib.hid hM5
              have HNx := Lib.hid hnx
              have hx5 := keepB HX3.out.1 H5.out.1
              have hs5 : w5.heap[H]? = some (.cells #[.string m, .slice A3 ln c3] 32 (0, 0)) := H5.out.2.2.1
              have hrow5 := hOut5.row
              rw [HNJ.out.1] at hrow5
              have HR5 := Lib.hid hrow5
              have HFN : Hid (∀ p ∈ [(w2.heap.size, Obj.cells #[.int .i64 (x1 : Int), .slice (some ⟨gx, ox, none⟩) np cx] 115), (H, .cells #[.string m, .slice A3 ln c3] 32), (gx, .cells curP 86)], ¬ (Value.slice oA J oc).ownBlock = some p.1) := Lib.hid (fun p hp e => by
                obtain ⟨cu, h3⟩ := (or_at HR5.out).ty _ e
                simp only [List.mem_cons, List.not_mem_nil, or_false] at hp
                rcases hp with rfl | rfl | rfl
                · simp only at h3; rw [hx5] at h3; cases h3
                · simp only at h3; rw [hs5] at h3; cases h3
                · simp only at h3; rw [hcurP] at h3; cases h3)
              have HFC : Hid (FC w5 (fun k => (Value.slice oA J oc).ownBlock = some k) [(w2.heap.size, Obj.cells #[.int .i64 (x1 : Int), .slice (some ⟨gx, ox, none⟩) np cx] 115), (H, .cells #[.string m, .slice A3 ln c3] 32), (gx, .cells curP 86)] w5) := Lib.hid ⟨Only.refl _ _, fun p hp => by
                simp only [List.mem_cons, List.not_mem_nil, or_false] at hp
                rcases hp with rfl | rfl | rfl
                · exact hx5
                · exact hs5
                · exact hcurP⟩
              obtain ⟨ip, hip, hz1, hz2, hz3⟩ := info_parts infoSm
              have HIP := Lib.hid (And.intro hip (And.intro hz1 (And.intro hz2 hz3)))
              have HBs : Hid (w.heap.size ≤ w5.heap.size) := Lib.hid (by have := HBw3.out.size; have := H5.out.1.size; omega)
              have HJb : Hid (J ≤ 4611686018427387904) := Lib.hid (by omega)
              have HJ5 : Hid (J + 1 ≤ 1000000000) := Lib.hid (by have := HMl.out; omega)
              clear hpt hcurP hp0 hp1 hnx hle' hOut5 hM5 hx5 hs5 hrow5 hip hz1 hz2 hz3
              refine wp_region_two 16 [(0, false), (1, false), (2, false), (3, false), (4, false), (5, false), (6, false), (7, false), (8, false), (9, false), (10, false), (11, false), (12, false), (13, false), (14, true), (15, true)] [] [] rfl (FC w5 (fun k => (Value.slice oA J oc).ownBlock = some k) [(w2.heap.size, Obj.cells #[.int .i64 (x1 : Int), .slice (some ⟨gx, ox, none⟩) np cx] 115), (H, .cells #[.string m, .slice A3 ln c3] 32), (gx, .cells curP 86)]) (D0 w5) (by kernel_rfl) (by kernel_rfl) FC.stab (D0.stab w5) (FC.stab _ _ HFC.out (Below.refl _ _).drew) (Below.refl _ _).drew ?_
              repeat (first | (refine wt_q rfl rfl ?_; apply Exists.intro; refine ⟨fun w' hw' => ?_, fun K hK => ?_⟩; (focus ((have y1 := cellAt (o := 1) (hw'.get 0 rfl) rfl; have s0 := cellAt (o := 0) (hw'.get 1 rfl) rfl; have s1 := cellAt (o := 1) (hw'.get 1 rfl) rfl; have g0 := cellAt (o := ox) (hw'.get 2 rfl) hcp0; have g1 := cellAt (o := ox + 1) (hw'.get 2 rfl) hcp1); go_simp; first | exact quiet_value | fail)); simp only [Act.put, List.setIfInBounds_toArray, List.set_cons_zero, List.set_cons_succ]; refine hK.out _ ?_; clear hK K) | (refine wt_skip rfl rfl (fun K hK => ?_); simp only [Act.put, List.setIfInBounds_toArray, List.set_cons_zero, List.set_cons_succ]; refine hK.out _ ?_; clear hK K))
              refine wt_bs 34 #[.string m, .slice A3 ln c3, .int .i64 q.1, .int .i64 q.2] rfl rfl rfl (fun w' hc hd => ?_) (fun K hK vv => ?_)
              focus
                have HCd := Lib.hid (And.intro hc hd)
                clear hc hd
                go_simp
                exact bs_res HCd.out.1 HCd.out.2 rfl
              simp only [Act.put, List.setIfInBounds_toArray, List.set_cons_zero, List.set_cons_succ]
              refine hK.out _ _ _ ?_
              clear hK K
              refine wt_step rfl (fun _ => Triv) (D7o w5 w.heap.size 34 4 (J + 1) (rowF smc X ++ [.string m, .slice A3 ln c3, .int .i64 q.1, .int .i64 q.2]) (.slice oA J oc)) (fun _ _ _ _ _ => triv _) (fun _ => D7o.stab _ _ _ _ _ _ _ _) rfl rfl (fun w' hc hd => ?_) (fun K hK v9 => ?_)
              focus
                obtain ⟨uu, w3', hrun, hres⟩ := apo_run 22 22 34 ip _ 4 56 Try.underlying22 HIP.out.1 HIP.out.2.1 HIP.out.2.2.1 HIP.out.2.2.2 rfl (by decide) HR5.out HBs.out HFN.out rfl (fun u hu => by
                  simp only [List.mem_cons, List.not_mem_nil, or_false] at hu
                  rcases hu with rfl | rfl | rfl | rfl <;> rfl) HJ5.out (by omega) hc hd
                exact st_ap (.tmp 69) (.tmp 83) rfl rfl rfl hrun hres
              simp only [Act.put, List.setIfInBounds_toArray, List.set_cons_zero, List.set_cons_succ]
              refine hK.out _ _ _ ?_
              clear hK K
              refine wt_nil ?_
              rintro w9 ⟨⟨hc9, _⟩, _⟩ ⟨w8, hb9, hr9, ho9, hu9⟩
              obtain ⟨o9, d9, rfl⟩ := or_form hr9
              have hx9 := hc9.get 0 rfl
              have y1 := cellAt (o := 1) hx9 rfl
              have yf := freeAt 1 hx9
              have H9 := Lib.hid (And.intro hx9 (And.intro hb9 (And.intro hr9 (And.intro ho9 hu9))))
              clear hc9 hb9 hr9 ho9 hu9 hx9 HFC HFN HR5
              (try simp only [List.drop_succ_cons]); (try simp only [List.drop_zero]); (try simp only [List.drop_nil])
              have y0 := cellAt (o := 0) H9.out.1 rfl
              have hcxI : (1 : Int) ≤ (np : Int) := by omega
              have hcxN : 1 ≤ np := by omega
              have hcc : 1 ≤ cx := by have := HCX.out; omega
              have hccI : (1 : Int) ≤ (cx : Int) := by omega
              have hnc := HCX.out
              have hncI : (np : Int) ≤ (cx : Int) := by omega
              obtain ⟨p1, hp1⟩ : ∃ p, np - 1 = p := ⟨_, rfl⟩
              obtain ⟨d1, hd1⟩ : ∃ p, cx - 1 = p := ⟨_, rfl⟩
              have HP1 : Hid (P.length = p1) := Lib.hid (by have := HNP.out; omega)
              have HD1 := Lib.hid hd1
              obtain ⟨Af, cf, hfe, hfl⟩ := H5.out.2.1
              cases hfe
              have HKp := Lib.hid (fun (nn : Nat) (uv : Value) => bt_keep (n := nn) (u := uv) HM5.out HO5.out HNJ.out.1 HNx.out ((or_at hfl).weak (fun k _ hk => Nat.le_trans HBw3.out.size hk)) HmL.out.2 H9.out.2.1 H9.out.2.2.1 H9.out.2.2.2.1 H9.out.1 (fun e => by
                have h1 := H2.out.2.2.2.1
                rw [h1] at e
                have h2 := (World.ownsRow.lt HT.out.hp.row _ e).2
                have h3 := H2.out.2.2.2.2.size
                omega) (by have := HT.out.below.size; have := H2.out.2.2.2.2.size; omega) (HBw3.out.trans (H5.out.1.mono HBw3.out.size)))
              have HSm : Hid (smC (m, (A3, c3, L), q.1, q.2) = smE S (q.1, x1, q.2)) := Lib.hid (by
                unfold smC smE
                rw [HmL.out.1])
              have HLt : Hid (J < M.length) := Lib.hid (by
                rcases Nat.lt_or_ge J M.length with h | h
                · exact h
                · have := HR.out; rw [HNJ.out.1, List.drop_eq_nil_of_le h] at this; cases this)
              clear hfl hcp0 hcp1
              by_cases hpz : p1 = 0
              · have HPz := Lib.hid hpz
                have hpN : ¬ 0 < p1 := by omega
                have hpI : ¬ (0 : Int) < (p1 : Int) := by omega
                clear hpz
                go_wp2_with fail
                go_roundw
                case rel =>
                  obtain ⟨k1, k2, k3, k4⟩ := HKp.out 1 _
                  have hT := HT.out
                  rw [HNJ.out.1] at hT
                  have hPn : P = [] := List.eq_nil_of_length_eq_zero (HP1.out.trans HPz.out)
                  exact ⟨J + 1, rfl, hmm, HLt.out, Lib.hid ⟨v2, A2, _, hT.next HMM.out.1 (by rw [HNJ.out.2]; exact h0N) HX.out.1 (by rw [HX.out.1, HNP.out]; exact H2.out.2.1) HSm.out k1 H2.out.2.2.1 (.inl ⟨rfl, hPn⟩) k2 k4⟩⟩
                case measure => simp only [vLen]; have := HLt.out; omega
              · have hpN : 0 < p1 := by omega
                have hpI : (0 : Int) < (p1 : Int) := by omega
                have hcx1 : ¬ cx = 1 := by omega
                have hcx2 : ¬ 1 = cx := by omega
                have HPn : Hid (0 < P.length) := Lib.hid (by have := HP1.out; omega)
                have hl2 : A2.length ≤ 900000 := by
                  have h1 := H2.out.2.1.length_eq
                  have h2 := HT.out.len
                  rw [List.length_cons] at h1
                  omega
                have HNx2 := HNx.out
                rw [if_neg hcx1, HD1.out] at HNx2
                have HKq := Lib.hid (fun (nn : Nat) (uv : Value) => (HKp.out nn uv))
                have CPu := Lib.hid (fun (nn : Nat) (uv : Value) => hpush_any (x := (x1, .slice (some ⟨gx, ox + 3, none⟩) p1 d1, P)) (HKp.out nn uv).1 hl2 H2.out.2.2.1 HPn.out (by
                  have h := (HKp.out nn uv).2.2.1
                  rw [if_neg hcx1, HD1.out, HP1.out] at h
                  rw [HP1.out]; exact h))
                dsimp only [plV] at CPu
                clear HNx2 hpz
                go_wp2_with fail
                refine (CPu.out 1 _).mono ?_
                rintro e W11 ⟨⟨uu2, rfl⟩, v11, A11, hM11, hP11, hH11, hv11, hO11⟩
                have H11 := Lib.hid (And.intro hM11 (And.intro hP11 (And.intro hH11 hO11)))
                clear hM11 hP11 hH11 hv11 hO11 CPu
                go_wp2_with fail
                go_roundw
                case rel =>
                  obtain ⟨k1, k2, k3, k4⟩ := HKp.out 1 _
                  have hT := HT.out
                  rw [HNJ.out.1] at hT
                  obtain ⟨hM11, hP11, hH11, hO11⟩ := H11.out
                  exact ⟨J + 1, rfl, hmm, HLt.out, Lib.hid ⟨v11, A11, _, hT.next HMM.out.1 (by rw [HNJ.out.2]; exact h0N) HX.out.1 (by rw [HX.out.1, HNP.out]; exact H2.out.2.1) HSm.out hM11 hH11 (.inr ⟨_, hP11⟩) (k2.keepT hO11 k1.turns) (k4.trans (hO11.below k1.turnsB k4.size))⟩⟩
                case measure => simp only [vLen]; have := HLt.out; omega
            refine wf_stepEX (fun v => ∃ H, v = .pointer (some ⟨H, 0, none⟩) ∧ w3.heap.size ≤ H) (fun _ => Triv) (SrB w3.heap.size) (fun _ _ _ _ _ => triv _) (SrB.stab _) rfl rfl (by kernel_rfl) (fun C D a hC w' hw => (hC w' hw).elim) (fun w' hc hd => ?_) (fun K hK v hv => ?_) wf_stopX
            focus
              have HCd := Lib.hid hc
              clear hc hd
              go_simp
              exact ⟨⟨_, rfl, HCd.out.size⟩, below_alloc HCd.out _, triv _, _, rfl, HCd.out.size, newB _ _⟩
            obtain ⟨H, rfl, hH⟩ := hv
            simp only [Act.put, List.setIfInBounds_toArray, List.set_cons_zero, List.set_cons_succ]
            refine hK.out _ _ _ ?_
            clear hK K
            refine wf_stepEX (fun v => ∃ A c, v = .tuple #[.agg #[.string m, .slice A ln c], .bool true]) (FrS w3.heap.size m ln L) (fun _ => SrB w3.heap.size (.pointer (some ⟨H, 0, none⟩))) (FrS.stab _ _ _ _) (fun _ => SrB.stab _ _) rfl rfl (by kernel_rfl) (fun C D a hC w' hw => (hC w' hw).elim) (fun w' hc hd => ?_) (fun K hK v hv => ?_) wf_stopX
            focus
              have HCd := Lib.hid (And.intro hc hd)
              clear hc hd
              go_simp
              refine st_enterX ?_
              exact (CS.out _ (HBw3.out.trans (HCd.out.1.1.mono HBw3.out.size))).mono fun e w'' ⟨A, c, h1, h2, h3⟩ => ⟨_, h1, ⟨A, c, rfl⟩, ⟨HCd.out.1.1.trans (h3.mono HCd.out.1.1.size), triv _⟩, ⟨A, c, rfl, or_base h2 HCd.out.1.1.size⟩, SrB.stab _ _ _ _ HCd.out.2 h3⟩
            focus
              obtain ⟨A3, c3, rfl⟩ := hv
              simp only [Act.put, List.setIfInBounds_toArray, List.set_cons_zero, List.set_cons_succ]
              refine hK.out _ _ _ ?_
              clear hK K
              repeat (first | (refine wf_qX rfl rfl ?_; apply Exists.intro; refine ⟨fun w' hw' => ?_, fun K hK => ?_⟩; (focus ((skip); go_simp; first | exact quiet_value | fail)); simp only [Act.put, List.setIfInBounds_toArray, List.set_cons_zero, List.set_cons_succ]; refine hK.out _ ?_; clear hK K) | (refine wf_skipX rfl rfl (fun K hK => ?_); simp only [Act.put, List.setIfInBounds_toArray, List.set_cons_zero, List.set_cons_succ]; refine hK.out _ ?_; clear hK K) | (refine wf_skipuX rfl rfl (fun K hK => ?_); simp only [Act.put, List.setIfInBounds_toArray, List.set_cons_zero, List.set_cons_succ]; refine hK.out _ ?_; clear hK K))
              refine wf_stepEX (fun _ => True) (fun _ => Triv) (fun _ => SrH H m A3 ln c3) (fun _ _ _ _ _ => triv _) (fun _ => SrH.stab _ _ _ _ _) rfl rfl (by kernel_rfl) (fun C D a hC w' hw => (hC w' hw).elim) (fun w' hc hd => ?_) (fun K hK v hv => ?_) wf_stopX
              focus
                obtain ⟨H', e, _, hz⟩ := hd
                cases e
                have HCd := Lib.hid (And.intro hc hz)
                have z0 := cellAt (o := 0) hz rfl
                have z1 := cellAt (o := 1) hz rfl
                have f0 := freeAt 0 hz
                have f1 := freeAt 1 hz
                clear hc hz
                go_simp
                obtain ⟨r1, r2, r3⟩ := sr_step (n := ln) (c := c3) (m' := m) (A := A3) HCd.out.1.1.1 HCd.out.1.2 hH HCd.out.2
                exact ⟨trivial, ⟨⟨r1, triv _⟩, r2⟩, triv _, r3⟩
              simp only [Act.put]
              refine hK.out _ _ _ ?_
              clear hK K
              repeat (first | (refine wf_qX rfl rfl ?_; apply Exists.intro; refine ⟨fun w' hw' => ?_, fun K hK => ?_⟩; (focus ((skip); go_simp; first | exact quiet_value | fail)); simp only [Act.put, List.setIfInBounds_toArray, List.set_cons_zero, List.set_cons_succ]; refine hK.out _ ?_; clear hK K) | (refine wf_skipX rfl rfl (fun K hK => ?_); simp only [Act.put, List.setIfInBounds_toArray, List.set_cons_zero, List.set_cons_succ]; refine hK.out _ ?_; clear hK K) | (refine wf_skipuX rfl rfl (fun K hK => ?_); simp only [Act.put, List.setIfInBounds_toArray, List.set_cons_zero, List.set_cons_succ]; refine hK.out _ ?_; clear hK K))
              refine wf_nilX ?_
              rintro w5 ⟨⟨⟨hb5, _⟩, hf5⟩, _⟩ hd5
              have H5 := Lib.hid (And.intro hb5 (And.intro hf5 (And.intro hd5 hH)))
              clear hb5 hf5 hd5 hH
              (try simp only [List.drop_succ_cons]); (try simp only [List.drop_zero]); (try simp only [List.drop_nil])
              go_wp2_with fail
              have hpt : RowAt w5 (fun k => w.heap.size ≤ k) 86 3 (.slice (some ⟨gx, ox, none⟩) (P.length + 1) cx) (q :: P).length (pcs (q :: P)) :=
                ((HX.out.2.2.keep' H2.out.2.2.2.2 (fun k hk e => by
                  obtain ⟨cur, h3⟩ := HX.out.2.2.ty k hk
                  rcases e with e | e
                  · have := HT.out.hp.box; rw [← e, h3] at this; cases this
                  · obtain ⟨cu, h6⟩ := (or_at HT.out.hp.row).ty k e
                    rw [h3] at h6; cases h6)).below HX3.out.2.1).below H5.out.1
              have HPt := Lib.hid hpt
              obtain ⟨curP, hcurP⟩ := hpt.ty gx rfl
              obtain ⟨g', o', c', e', hle', hp0, hp1, hnx⟩ := place_next hpt
              cases e'
              have hcp0 : curP[ox]? = some (.int .i64 q.1) := by rw [← hp0]; simp [World.cell?, hcurP]
              have hcp1 : curP[ox + 1]? = some (.int .i64 q.2) := by rw [← hp1]; simp [World.cell?, hcurP]
              have hOut5 : OutM w5 w.heap.size (.slice oA J oc) X := by
                have h := HT.out.out
                rw [HNJ.out.1] at h
                refine ((h.keepT H2.out.2.2.2.2 HT.out.hp.turns).below HX3.out.2.1).below H5.out.1
              have hM5 : HpM w5 w.heap.size w.heap.size v2 A2 := (H2.out.1.below HX3.out.2.1).below H5.out.1
              have HO5 := Lib.hid hOut5
              have HM5 := Lib.hid hM5
              have HNx := Lib.hid hnx
              have hx5 := keepB HX3.out.1 H5.out.1
              have hs5 : w5.heap[H]? = some (.cells #[.string m, .slice A3 ln c3] 32 (0, 0)) := H5.out.2.2.1
              have hrow5 := hOut5.row
              rw [HNJ.out.1] at hrow5
              have HR5 := Lib.hid hrow5
              have HFN : Hid (∀ p ∈ [(w2.heap.size, Obj.cells #[.int .i64 (x1 : Int), .slice (some ⟨gx, ox, none⟩) np cx] 115), (H, .cells #[.string m, .slice A3 ln c3] 32), (gx, .cells curP 86)], ¬ (Value.slice oA J oc).ownBlock = some p.1) := Lib.hid (fun p hp e => by
                obtain ⟨cu, h3⟩ := (or_at HR5.out).ty _ e
                simp only [List.mem_cons, List.not_mem_nil, or_false] at hp
                rcases hp with rfl | rfl | rfl
                · simp only at h3; rw [hx5] at h3; cases h3
                · simp only at h3; rw [hs5] at h3; cases h3
                · simp only at h3; rw [hcurP] at h3; cases h3)
              have HFC : Hid (FC w5 (fun k => (Value.slice oA J oc).ownBlock = some k) [(w2.heap.size, Obj.cells #[.int .i64 (x1 : Int), .slice (some ⟨gx, ox, none⟩) np cx] 115), (H, .cells #[.string m, .slice A3 ln c3] 32), (gx, .cells curP 86)] w5) := Lib.hid ⟨Only.refl _ _, fun p hp => by
                simp only [List.mem_cons, List.not_mem_nil, or_false] at hp
                rcases hp with rfl | rfl | rfl
                · exact hx5
                · exact hs5
                · exact hcurP⟩
              obtain ⟨ip, hip, hz1, hz2, hz3⟩ := info_parts infoSm
              have HIP := Lib.hid (And.intro hip (And.intro hz1 (And.intro hz2 hz3)))
              have HBs : Hid (w.heap.size ≤ w5.heap.size) := Lib.hid (by have := HBw3.out.size; have := H5.out.1.size; omega)
              have HJb : Hid (J ≤ 4611686018427387904) := Lib.hid (by omega)
              have HJ5 : Hid (J + 1 ≤ 1000000000) := Lib.hid (by have := HMl.out; omega)
              clear hpt hcurP hp0 hp1 hnx hle' hOut5 hM5 hx5 hs5 hrow5 hip hz1 hz2 hz3
              refine wp_region_two 16 [(0, false), (1, false), (2, false), (3, false), (4, false), (5, false), (6, false), (7, false), (8, false), (9, false), (10, false), (11, false), (12, false), (13, false), (14, true), (15, true)] [] [] rfl (FC w5 (fun k => (Value.slice oA J oc).ownBlock = some k) [(w2.heap.size, Obj.cells #[.int .i64 (x1 : Int), .slice (some ⟨gx, ox, none⟩) np cx] 115), (H, .cells #[.string m, .slice A3 ln c3] 32), (gx, .cells curP 86)]) (D0 w5) (by kernel_rfl) (by kernel_rfl) FC.stab (D0.stab w5) (FC.stab _ _ HFC.out (Below.refl _ _).drew) (Below.refl _ _).drew ?_
              repeat (first | (refine wt_q rfl rfl ?_; apply Exists.intro; refine ⟨fun w' hw' => ?_, fun K hK => ?_⟩; (focus ((have y1 := cellAt (o := 1) (hw'.get 0 rfl) rfl; have s0 := cellAt (o := 0) (hw'.get 1 rfl) rfl; have s1 := cellAt (o := 1) (hw'.get 1 rfl) rfl; have g0 := cellAt (o := ox) (hw'.get 2 rfl) hcp0; have g1 := cellAt (o := ox + 1) (hw'.get 2 rfl) hcp1); go_simp; first | exact quiet_value | fail)); simp only [Act.put, List.setIfInBounds_toArray, List.set_cons_zero, List.set_cons_succ]; refine hK.out _ ?_; clear hK K) | (refine wt_skip rfl rfl (fun K hK => ?_); simp only [Act.put, List.setIfInBounds_toArray, List.set_cons_zero, List.set_cons_succ]; refine hK.out _ ?_; clear hK K))
              refine wt_bs 34 #[.string m, .slice A3 ln c3, .int .i64 q.1, .int .i64 q.2] rfl rfl rfl (fun w' hc hd => ?_) (fun K hK vv => ?_)
              focus
                have HCd := Lib.hid (And.intro hc hd)
                clear hc hd
                go_simp
                exact bs_res HCd.out.1 HCd.out.2 rfl
              simp only [Act.put, List.setIfInBounds_toArray, List.set_cons_zero, List.set_cons_succ]
              refine hK.out _ _ _ ?_
              clear hK K
              refine wt_step rfl (fun _ => Triv) (D7o w5 w.heap.size 34 4 (J + 1) (rowF smc X ++ [.string m, .slice A3 ln c3, .int .i64 q.1, .int .i64 q.2]) (.slice oA J oc)) (fun _ _ _ _ _ => triv _) (fun _ => D7o.stab _ _ _ _ _ _ _ _) rfl rfl (fun w' hc hd => ?_) (fun K hK v9 => ?_)
              focus
                obtain ⟨uu, w3', hrun, hres⟩ := apo_run 22 22 34 ip _ 4 56 Try.underlying22 HIP.out.1 HIP.out.2.1 HIP.out.2.2.1 HIP.out.2.2.2 rfl (by decide) HR5.out HBs.out HFN.out rfl (fun u hu => by
                  simp only [List.mem_cons, List.not_mem_nil, or_false] at hu
                  rcases hu with rfl | rfl | rfl | rfl <;> rfl) HJ5.out (by omega) hc hd
                exact st_ap (.tmp 69) (.tmp 83) rfl rfl rfl hrun hres
              simp only [Act.put, List.setIfInBounds_toArray, List.set_cons_zero, List.set_cons_succ]
              refine hK.out _ _ _ ?_
              clear hK K
              refine wt_nil ?_
              rintro w9 ⟨⟨hc9, _⟩, _⟩ ⟨w8, hb9, hr9, ho9, hu9⟩
              obtain ⟨o9, d9, rfl⟩ := or_form hr9
              have hx9 := hc9.get 0 rfl
              have y1 := cellAt (o := 1) hx9 rfl
              have yf := freeAt 1 hx9
              have H9 := Lib.hid (And.intro hx9 (And.intro hb9 (And.intro hr9 (And.intro ho9 hu9))))
              clear hc9 hb9 hr9 ho9 hu9 hx9 HFC HFN HR5
              (try simp only [List.drop_succ_cons]); (try simp only [List.drop_zero]); (try simp only [List.drop_nil])
              have y0 := cellAt (o := 0) H9.out.1 rfl
              have hcxI : (1 : Int) ≤ (np : Int) := by omega
              have hcxN : 1 ≤ np := by omega
              have hcc : 1 ≤ cx := by have := HCX.out; omega
              have hccI : (1 : Int) ≤ (cx : Int) := by omega
              have hnc := HCX.out
              have hncI : (np : Int) ≤ (cx : Int) := by omega
              obtain ⟨p1, hp1⟩ : ∃ p, np - 1 = p := ⟨_, rfl⟩
              obtain ⟨d1, hd1⟩ : ∃ p, cx - 1 = p := ⟨_, rfl⟩
              have HP1 : Hid (P.length = p1) := Lib.hid (by have := HNP.out; omega)
              have HD1 := Lib.hid hd1
              obtain ⟨Af, cf, hfe, hfl⟩ := H5.out.2.1
              cases hfe
              have HKp := Lib.hid (fun (nn : Nat) (uv : Value) => bt_keep (n := nn) (u := uv) HM5.out HO5.out HNJ.out.1 HNx.out ((or_at hfl).weak (fun k _ hk => Nat.le_trans HBw3.out.size hk)) HmL.out.2 H9.out.2.1 H9.out.2.2.1 H9.out.2.2.2.1 H9.out.1 (fun e => by
                have h1 := H2.out.2.2.2.1
                rw [h1] at e
                have h2 := (World.ownsRow.lt HT.out.hp.row _ e).2
                have h3 := H2.out.2.2.2.2.size
                omega) (by have := HT.out.below.size; have := H2.out.2.2.2.2.size; omega) (HBw3.out.trans (H5.out.1.mono HBw3.out.size)))
              have HSm : Hid (smC (m, (A3, c3, L), q.1, q.2) = smE S (q.1, x1, q.2)) := Lib.hid (by
                unfold smC smE
                rw [HmL.out.1])
              have HLt : Hid (J < M.length) := Lib.hid (by
                rcases Nat.lt_or_ge J M.length with h | h
                · exact h
                · have := HR.out; rw [HNJ.out.1, List.drop_eq_nil_of_le h] at this; cases this)
              clear hfl hcp0 hcp1
              by_cases hpz : p1 = 0
              · have HPz := Lib.hid hpz
                have hpN : ¬ 0 < p1 := by omega
                have hpI : ¬ (0 : Int) < (p1 : Int) := by omega
                clear hpz
                go_wp2_with fail
                go_roundw
                case rel =>
                  obtain ⟨k1, k2, k3, k4⟩ := HKp.out 1 _
                  have hT := HT.out
                  rw [HNJ.out.1] at hT
                  have hPn : P = [] := List.eq_nil_of_length_eq_zero (HP1.out.trans HPz.out)
                  exact ⟨J + 1, rfl, hmm, HLt.out, Lib.hid ⟨v2, A2, _, hT.next HMM.out.1 (by rw [HNJ.out.2]; exact h0N) HX.out.1 (by rw [HX.out.1, HNP.out]; exact H2.out.2.1) HSm.out k1 H2.out.2.2.1 (.inl ⟨rfl, hPn⟩) k2 k4⟩⟩
                case measure => simp only [vLen]; have := HLt.out; omega
              · have hpN : 0 < p1 := by omega
                have hpI : (0 : Int) < (p1 : Int) := by omega
                have hcx1 : ¬ cx = 1 := by omega
                have hcx2 : ¬ 1 = cx := by omega
                have HPn : Hid (0 < P.length) := Lib.hid (by have := HP1.out; omega)
                have hl2 : A2.length ≤ 900000 := by
                  have h1 := H2.out.2.1.length_eq
                  have h2 := HT.out.len
                  rw [List.length_cons] at h1
                  omega
                have HNx2 := HNx.out
                rw [if_neg hcx1, HD1.out] at HNx2
                have HKq := Lib.hid (fun (nn : Nat) (uv : Value) => (HKp.out nn uv))
                have CPu := Lib.hid (fun (nn : Nat) (uv : Value) => hpush_any (x := (x1, .slice (some ⟨gx, ox + 3, none⟩) p1 d1, P)) (HKp.out nn uv).1 hl2 H2.out.2.2.1 HPn.out (by
                  have h := (HKp.out nn uv).2.2.1
                  rw [if_neg hcx1, HD1.out, HP1.out] at h
                  rw [HP1.out]; exact h))
                dsimp only [plV] at CPu
                clear HNx2 hpz
                go_wp2_with fail
                refine (CPu.out 1 _).mono ?_
                rintro e W11 ⟨⟨uu2, rfl⟩, v11, A11, hM11, hP11, hH11, hv11, hO11⟩
                have H11 := Lib.hid (And.intro hM11 (And.intro hP11 (And.intro hH11 hO11)))
                clear hM11 hP11 hH11 hv11 hO11 CPu
                go_wp2_with fail
                go_roundw
                case rel =>
                  obtain ⟨k1, k2, k3, k4⟩ := HKp.out 1 _
                  have hT := HT.out
                  rw [HNJ.out.1] at hT
                  obtain ⟨hM11, hP11, hH11, hO11⟩ := H11.out
                  exact ⟨J + 1, rfl, hmm, HLt.out, Lib.hid ⟨v11, A11, _, hT.next HMM.out.1 (by rw [HNJ.out.2]; exact h0N) HX.out.1 (by rw [HX.out.1, HNP.out]; exact H2.out.2.1) HSm.out hM11 hH11 (.inr ⟨_, hP11⟩) (k2.keepT hO11 k1.turns) (k4.trans (hO11.below k1.turnsB k4.size))⟩⟩
                case measure => simp only [vLen]; have := HLt.out; omega
          · have hmI : ¬ (J : Int) < (most : Int) := by omega
            clear hT hb
            rw [hJ]
            go_wp2_with fail
            have hT := HT.out
            refine bodyPost_ret (v := .slice oA J oc) (by simp only [results, Try.results31]; go_simp) rfl ⟨_, X, rfl, by rw [HNJ.out.1] at hT; exact hT.out, ?_, hT.below⟩
            rw [hT.xs, show X.length = most by have := HNJ.out.1; omega]
end
end Go.Proofs.Ytangcgfchalnaaa
