/- Parts of the proof: BfT. -/
import Derived.Test.YtangcgfchalnaaaYaf
/- A buffer in memory: Trim. -/
namespace Go.Proofs.Ytangcgfchalnaaa
open Go.RowKit
/-! ### copy of points -/
theorem run_copy_pts (w : World) (ty : TypeId) (g o dLen dCap : Nat) (a : Addr) (sLen sCap : Nat) (cur : Array Value) (t : TypeId) (cs : List Value)
    (hg : w.heap[g]? = some (.cells cur t (0, 0))) (hn : cs.length = Nat.min sLen dLen * 3)
    (hsrc : ∀ j v, cs[j]? = some v → w.cell? (a.add j) = some v) (hfit : o + cs.length ≤ cur.size) (h1 : ∀ v ∈ cs, v.oneCell' = true) :
    (Builtin.copy_ #[81, 81] ty #[.slice (some ⟨g, o, none⟩) dLen dCap, .slice (some a) sLen sCap]).run Try.prog w =
      .ok (goInt (Nat.min sLen dLen)) (w.setRow g (cur.toList.take o ++ cs ++ cur.toList.drop (o + cs.length)).toArray) := by
  have hl := run_loadCells_list (P := Try.prog) w a cs hsrc
  have hst := run_storeCells_at Try.prog g o t cs 0 cur w hg (by simpa using hfit) h1
  obtain ⟨i, hi, _, h2, _⟩ := info_parts pInfo
  simp [Builtin.copy_, run_underlying Try.underlying81, Builtin.lenOf, Builtin.firstCells, sizeOf, typeInfo, hi, h2, ← hn, hl, hst]
theorem only_setRow (w : World) (g : Nat) (cs : Array Value) : Only (fun k => k = g) w (w.setRow g cs) := ⟨rfl, rfl, rfl, by simp [World.setRow], fun k _ hk => setRow_other w g k cs hk⟩
theorem wpL_copyP {w : World} {ops : Array Oper} {rest : List Oper} {o : Oper} {a : Act} {Q : Exit → Act → World → Prop} (hgd : o.guard = none) (d s : Operand)
    (ho : o.op = .call { callee := .builtin .copy, args := #[d, s], argTypes := #[81, 81] }) (g off dLen dCap : Nat) (ad : Addr) (sLen sCap : Nat)
    (hd : a.eval d = .slice (some ⟨g, off, none⟩) dLen dCap) (hs : a.eval s = .slice (some ad) sLen sCap) (cur : Array Value) (t : TypeId) (hg : w.heap[g]? = some (.cells cur t (0, 0))) (cs : List Value) (hn : cs.length = Nat.min sLen dLen * 3)
    (hsrc : ∀ j v, cs[j]? = some v → w.cell? (ad.add j) = some v) (hfit : off + cs.length ≤ cur.size) (h1 : ∀ v ∈ cs, v.oneCell' = true)
    (h : ∀ w', Hid (w'.heap[g]? = some (.cells (cur.toList.take off ++ cs ++ cur.toList.drop (off + cs.length)).toArray t (0, 0))) → Hid (Only (fun k => k = g) w w') → wpList Try.prog ops Q rest (a.put o.dst (goInt (Nat.min sLen dLen))) w') : wpList Try.prog ops Q (o :: rest) a w := by
  refine wpList_plain hgd fun K hK => ?_
  unfold Oper.wp execOp
  simp only [ho, resolve, invoke, builtin, Sem.run_bind, Sem.run_pure, Result.andThen_ok, List.map_toArray, List.map_cons, List.map_nil, hd, hs, run_copy_pts w o.type g off dLen dCap ad sLen sCap cur t cs hg hn hsrc hfit h1]
  exact hK _ _ (h _ (setRow_heap w g cur _ t _ hg) (only_setRow w g _))
/-! ### Trim -/
theorem pcs_drop (X : List Pt) (k : Nat) : (pcs X).drop (k * 3) = pcs (X.drop k) := by
  by_cases hk : k ≤ X.length
  · conv => lhs; rw [← List.take_append_drop k X, pcs_append]
    rw [List.drop_left' (by rw [pcs_len, List.length_take]; omega)]
  · rw [List.drop_eq_nil_of_le (by rw [pcs_len]; omega), List.drop_eq_nil_of_le (by omega)]; rfl
theorem pcs_take (X : List Pt) (k : Nat) : (pcs X).take (k * 3) = pcs (X.take k) := by
  by_cases hk : k ≤ X.length
  · conv => lhs; rw [← List.take_append_drop k X, pcs_append]
    rw [List.take_left' (by rw [pcs_len, List.length_take]; omega)]
  · rw [List.take_of_length_le (by rw [pcs_len]; omega), List.take_of_length_le (by omega)]
theorem BlkC.of_list {X : List Pt} {rest : List Value} (h1 : X.length ≤ 64) (h2 : X.length * 3 + rest.length = 192) : BlkC (.int .i64 (X.length : Int) :: (pcs X ++ rest)).toArray X :=
  ⟨by simp [pcs_len]; omega, by simp, by simp only [List.drop_succ_cons, List.drop_zero]; rw [← pcs_len X, List.take_left], h1⟩
theorem BlkC.form {c : Array Value} {X : List Pt} (h : BlkC c X) : ∃ rest, c.toList = .int .i64 (X.length : Int) :: (pcs X ++ rest) ∧ X.length * 3 + rest.length = 192 := by
  obtain ⟨h1, h2, h3, h4⟩ := h
  cases hc : c.toList with
  | nil => have := congrArg List.length hc; simp at this; rw [this] at h1; simp at h1
  | cons a r =>
    have hl : (a :: r).length = 193 := by rw [← hc]; simpa using h1
    rw [hc] at h3
    simp only [List.drop_succ_cons, List.drop_zero] at h3
    have ha : a = .int .i64 (X.length : Int) := by
      rw [← Array.getElem?_toList, hc] at h2
      simpa using h2
    refine ⟨r.drop (X.length * 3), ?_, ?_⟩
    · rw [ha, ← h3, List.take_append_drop]
    · simp at hl ⊢; omega
theorem arr_set0 {l : List Value} {a v : Value} : ((a :: l).toArray.setIfInBounds 0 v) = (v :: l).toArray := by simp
theorem BlkC.trim {c : Array Value} {X : List Pt} (h : BlkC c X) (k : Nat) (hk : k ≤ X.length) :
    BlkC (((c.toList.take 1 ++ pcs (X.drop k) ++ c.toList.drop (1 + (pcs (X.drop k)).length)).toArray).setIfInBounds 0 (.int .i64 ((X.length - k : Nat) : Int))) (X.drop k) := by
  obtain ⟨rest, hc, hl⟩ := h.form
  have h4 := h.le
  have hd : (X.drop k).length = X.length - k := List.length_drop
  rw [hc, pcs_len, hd]
  simp only [List.take_succ_cons, List.take_zero, List.cons_append, List.nil_append]
  rw [arr_set0, show 1 + (X.length - k) * 3 = (X.length - k) * 3 + 1 by omega, List.drop_succ_cons, ← hd]
  refine BlkC.of_list (by omega) ?_
  simp only [List.length_drop, List.length_append, pcs_len]; omega
theorem BlkC.trim0 {c : Array Value} {X : List Pt} (h : BlkC c X) {cs ds : List Value} : ((c.toList.take 1 ++ cs ++ ds).toArray)[0]? = some (.int .i64 (X.length : Int)) := by
  obtain ⟨rest, hc, hl⟩ := h.form
  rw [hc]; simp
theorem trim_src {W : World} {x k xn : Nat} {c0 : Array Value} {T : TypeId} {X : List Pt} (h : W.heap[x]? = some (.cells c0 T (0, 0))) (hB : BlkC c0 X) (hX : X.length = xn) (hle : xn ≤ 64) :
    ∀ j v, (pcs (X.drop k))[j]? = some v → W.cell? ((if k = 64 then (⟨x, 1, none⟩ : Addr) else ⟨x, 1 + k * 3, none⟩).add j) = some v := by
  intro j v hj
  by_cases hk : k = 64
  · rw [List.drop_eq_nil_of_le (by omega)] at hj
    simp [pcs] at hj
  · rw [if_neg hk, add_mk, Nat.add_assoc]
    rw [← pcs_drop, List.getElem?_drop] at hj
    exact cellAt h (hB.get hj)
/-- What Trim has left when it goes round. -/
def TrR (w0 : World) (F : Nat → Prop) (b : Nat) (P : List Pt) (t : Int) (wr : World) (m : Nat) : Prop := ∃ Z v, BufC wr F b Z v t (Z.map (·.2)).flatten.length ∧ Good (Z.map (·.2)) ∧ aboveP t P = aboveP t (Z.map (·.2)).flatten ∧
  (Z.map (·.2)).flatten.length ≤ P.length ∧ Only F w0 wr ∧ m = Z.length
theorem Good.tail {B : List Pt} {Bs : List (List Pt)} (h : Good (B :: Bs)) : Good Bs :=
  ⟨fun C hC => h.ne C (by simp [hC]), by have := h.rise; unfold Rise at *; rw [List.flatten_cons, List.pairwise_append] at this; exact this.2.1⟩
/-- The first block cut. -/
theorem Good.cut {B B' : List Pt} {Bs : List (List Pt)} (h : Good (B :: Bs)) (hs : B'.Sublist B) (hn : B' ≠ []) : Good (B' :: Bs) :=
  ⟨fun C hC => by rcases List.mem_cons.1 hC with rfl | hC
                  · exact hn
                  · exact h.ne C (by simp [hC]), by
    have := h.rise; unfold Rise at *; rw [List.flatten_cons] at *; exact this.sublist (hs.append_right _)⟩
theorem Good.all_above {t : Int} {B B' : List Pt} {Bs : List (List Pt)} (h : Good (B :: Bs)) (hs : B'.Sublist B) (hn : B' ≠ []) (ha : ∀ q ∈ B', t < q.1) : ∀ q ∈ Bs.flatten, t < q.1 := by
  intro q hq
  have := h.rise
  unfold Rise at this
  rw [List.flatten_cons, List.pairwise_append] at this
  obtain ⟨a, ha'⟩ := List.exists_mem_of_ne_nil _ hn
  have h1 := this.2.2 a (hs.subset ha') q hq
  have h2 := ha a ha'
  omega
section
variable {w w' : World} {F : Nat → Prop} {b n : Nat} {Z : List Blk} {v : Value} {fl : Int} {P : List Pt}
/-- A turn of the buffer's own cells, and of one block. -/
theorem BufC.cut {z : Blk} {x : Nat} {X : List Pt} {wr : World} {c : Array Value} {n' : Nat} (h : BufC w F b (z :: Z) v fl n) (hx : z.1 = x) (hb : wr.heap[b]? = some (.cells (bufC v fl n') 102 (0, 0)))
    (hc : wr.heap[x]? = some (.cells c 107 (0, 0))) (hB : BlkC c X) (ho : Only (fun k => k = b ∨ k = x) w wr) : BufC wr F b ((x, X) :: Z) v fl n' := by
  subst hx
  have hnd := h.nodup
  simp only [List.map_cons, List.nodup_cons] at hnd
  have hbx : w.heap[b]? = _ := h.buf
  refine ⟨h.inF, hb, ⟨by simp [blkPtrs], ?_⟩, fun y hy => ?_, by simpa using h.nodup⟩
  · have h7 := h.row.2
    refine h7.imp (fun h => h) ?_
    rintro ⟨g, o, cc, cur, h1, h2, h3, h4, h5, h6, h8⟩
    refine ⟨g, o, cc, cur, h1, h2, ho.get h3 ?_, h4, h5, h6, ?_⟩
    · rintro (rfl | rfl)
      · rw [h3] at hbx; cases hbx
      · obtain ⟨c2, hc2, _⟩ := (h.blks z (by simp)).2
        rw [h3] at hc2; cases hc2
    · simpa [blkPtrs] using h8
  · rcases List.mem_cons.1 hy with rfl | hy
    · exact ⟨(h.blks z (by simp)).1, c, hc, hB⟩
    · obtain ⟨a1, a2⟩ := h.blks y (by simp [hy])
      refine ⟨a1, a2.keep ho ?_⟩
      rintro (e | e)
      · obtain ⟨c2, hc2, _⟩ := a2
        rw [e, hbx] at hc2; cases hc2
      · exact hnd.1 (List.mem_map.2 ⟨y, hy, e⟩)
/-- The first block goes. -/
theorem BufC.shift {z : Blk} {A : Option Addr} {c : Nat} {wr : World} (h : BufC w F b (z :: Z) (.slice A (Z.length + 1) c) fl n)
    (hb : wr.heap[b]? = some (.cells (bufC (.slice (if c = 1 then A else A.map (·.add 1)) Z.length (c - 1)) fl n) 102 (0, 0))) (ho : Only (fun k => k = b) w wr) :
    BufC wr F b Z (.slice (if c = 1 then A else A.map (·.add 1)) Z.length (c - 1)) fl n := by
  have hbx : w.heap[b]? = _ := h.buf
  have hr := (show RowAt w F 103 1 (.slice A (Z.length + 1) c) (Z.length + 1) (blkPtrs (z :: Z)) from h.row).tail_
  refine ⟨h.inF, hb, ?_, fun y hy => ?_, by have := h.nodup; simp only [List.map_cons, List.nodup_cons] at this; exact this.2⟩
  · refine ⟨by simp [blkPtrs], ?_⟩
    refine hr.2.imp (fun h => h) ?_
    rintro ⟨g, o, cc, cur, h1, h2, h3, h4, h5, h6, h8⟩
    refine ⟨g, o, cc, cur, h1, h2, ho.get h3 ?_, h4, h5, h6, by simpa [blkPtrs] using h8⟩
    rintro rfl
    rw [h3] at hbx; cases hbx
  · obtain ⟨a1, a2⟩ := h.blks y (by simp [hy])
    refine ⟨a1, a2.keep ho ?_⟩
    rintro e
    obtain ⟨c2, hc2, _⟩ := a2
    rw [e, hbx] at hc2; cases hc2
theorem BufC.refloor (h : BufC w F b Z v fl n) (t : Int) : BufC (w.setCell ⟨b, 2, none⟩ (.int .i64 t)) F b Z v t n := by
  have ho := Only.set w b 2 (.int .i64 t)
  have hbx : w.heap[b]? = _ := h.buf
  refine ⟨h.inF, setCell_get h.buf, ⟨h.row.1, h.row.2.imp (fun h => h) ?_⟩, fun y hy => ?_, h.nodup⟩
  · rintro ⟨g, o, cc, cur, h1, h2, h3, h4⟩
    refine ⟨g, o, cc, cur, h1, h2, ho.get h3 ?_, h4⟩
    rintro rfl
    rw [h3] at hbx; cases hbx
  · obtain ⟨a1, a2⟩ := h.blks y hy
    refine ⟨a1, a2.keep ho ?_⟩
    rintro e
    obtain ⟨c2, hc2, _⟩ := a2
    rw [e, hbx] at hc2; cases hc2
theorem trim_step {wr w3 : World} {x xn k nn : Nat} {X : List Pt} {Z2 : List Blk} {t : Int} {c0 : Array Value} (HBF : BufC wr F b ((x, X) :: Z2) v t nn) (HBC : BlkC c0 X) (HXN : X.length = xn) (hkx : k ≤ xn) (HO : Only (fun i => i = x) wr w3)
    (HC3 : w3.heap[x]? = some (.cells (c0.toList.take 1 ++ pcs (X.drop k) ++ c0.toList.drop (1 + (pcs (X.drop k)).length)).toArray 107 (0, 0))) (hbx : b ≠ x) :
    BufC ((w3.setCell ⟨x, 0, none⟩ (.int .i64 ((xn - k : Nat) : Int))).setCell ⟨b, 3, none⟩ (.int .i64 ((nn - k : Nat) : Int))) F b ((x, X.drop k) :: Z2) v t (nn - k) := by
  have hB := HBC.trim k (by omega)
  rw [HXN] at hB
  have hb3 : w3.heap[b]? = _ := HO.get HBF.buf hbx
  refine HBF.cut rfl ?_ (setCell_other (setCell_get HC3) (fun e => hbx e.symm)) hB ?_
  · exact setCell_get (setCell_other hb3 hbx)
  · exact ((HO.mono (fun i _ h => .inr h)).trans ((Only.set w3 x 0 _).mono (fun i _ h => .inr h))).trans ((Only.set _ b 3 _).mono (fun i _ h => .inl h))
theorem trim_only {wr w3 : World} {x nn : Nat} {X : List Pt} {Z2 : List Blk} {t : Int} {u1 u2 : Value} (HBF : BufC wr F b ((x, X) :: Z2) v t nn) (HO : Only (fun i => i = x) wr w3) : Only F wr ((w3.setCell ⟨x, 0, none⟩ u1).setCell ⟨b, 3, none⟩ u2) :=
  ((HO.mono (fun i _ h => h ▸ (HBF.blks (x, X) (by simp)).1)).trans ((Only.set w3 x 0 _).mono (fun i _ h => h ▸ (HBF.blks (x, X) (by simp)).1))).trans ((Only.set _ b 3 _).mono (fun i _ h => h ▸ HBF.inF))
theorem above_app (t : Int) (A B : List Pt) : aboveP t (A ++ B) = aboveP t A ++ aboveP t B := List.filter_append ..
theorem trim_above {X : List Pt} {Bs : List (List Pt)} {t : Int} {k : Nat} (hG : Good (X :: Bs)) (hA : aboveP t P = aboveP t (X :: Bs).flatten) (hK : cntLe t X = k) (hkl : k < X.length) : aboveP t P = (X.drop k :: Bs).flatten ∧ Good (X.drop k :: Bs) := by
  have hr : Rise X := hG.split.1 X (by simp)
  have hne : X.drop k ≠ [] := fun e => by have := congrArg List.length e; simp at this; omega
  have hab := (rise_cutLe t hr).2
  rw [hK] at hab
  refine ⟨?_, hG.cut (List.drop_sublist k X) hne⟩
  rw [hA, List.flatten_cons, above_app, above_drop hr, hK, List.flatten_cons]
  congr 1
  exact filter_all (fun q hq => by simpa using hG.all_above (List.drop_sublist k X) hne hab q hq)
theorem trim_none {X : List Pt} {Bs : List (List Pt)} {t : Int} {k : Nat} (hG : Good (X :: Bs)) (hA : aboveP t P = aboveP t (X :: Bs).flatten) (hK : cntLe t X = k) (hkl : k = X.length) : aboveP t P = aboveP t Bs.flatten := by
  have hr : Rise X := hG.split.1 X (by simp)
  rw [hA, List.flatten_cons, above_app, above_drop hr, hK, hkl, List.drop_length, List.nil_append]
theorem trim_len {X : List Pt} {x xn k nn : Nat} {Z2 : List Blk} (h1 : (List.map (fun (x : Blk) => x.2) ((x, X) :: Z2)).flatten.length = nn) (h2 : X.length = xn) (hk : k ≤ xn) : (X.drop k :: Z2.map (fun (x : Blk) => x.2)).flatten.length = nn - k := by
  rw [List.map_cons, List.flatten_cons, List.length_append] at h1
  rw [List.flatten_cons, List.length_append, List.length_drop]
  simp only at h1
  omega
theorem trim_len0 {X : List Pt} {x xn nn : Nat} {Z2 : List Blk} (h1 : (List.map (fun (x : Blk) => x.2) ((x, X) :: Z2)).flatten.length = nn) (h2 : X.length = xn) {k : Nat} (hk : k = xn) : nn - k = (Z2.map (fun (x : Blk) => x.2)).flatten.length := by
  rw [List.map_cons, List.flatten_cons, List.length_append] at h1
  simp only at h1
  omega
theorem trim_shift {W4 : World} {z : Blk} {Z2 : List Blk} {g o c m : Nat} {t : Int} (h : BufC W4 F b (z :: Z2) (.slice (some ⟨g, o, none⟩) (Z2.length + 1) c) t m) :
    BufC (W4.setCell ⟨b, 1, none⟩ (.slice (if c = 1 then some ⟨g, o, none⟩ else some ⟨g, o + 1, none⟩) Z2.length (c - 1))) F b Z2 (.slice (if c = 1 then some ⟨g, o, none⟩ else some ⟨g, o + 1, none⟩) Z2.length (c - 1)) t m := by
  have e : (if c = 1 then (some ⟨g, o, none⟩ : Option Addr) else (some ⟨g, o, none⟩ : Option Addr).map (·.add 1)) = if c = 1 then some ⟨g, o, none⟩ else some ⟨g, o + 1, none⟩ := by simp [add_mk]
  have := h.shift (wr := W4.setCell ⟨b, 1, none⟩ (.slice (if c = 1 then some ⟨g, o, none⟩ else some ⟨g, o + 1, none⟩) Z2.length (c - 1))) (by rw [e]; exact setCell_get h.buf) (Only.set _ b 1 _)
  rw [e] at this
  exact this
/-- How Trim ends. -/
def TrimG (w : World) (F : Nat → Prop) (b : Nat) (P : List Pt) (t : Int) (e : Ending) (w' : World) : Prop :=
  e = .returned (.tuple #[.int .i64 ((P.length - (aboveP t P).length : Nat) : Int), .int .i64 0]) ∧ BufL w' F b (aboveP t P) t ∧ Only F w w'
theorem above_len (t : Int) (P : List Pt) : (aboveP t P).length ≤ P.length := List.length_filter_le _ _
set_option maxRecDepth 100000 in
set_option maxHeartbeats 4000000 in
theorem bTrim_go (t : Int) (h : BufL w F b P fl) (ht : ¬ t < fl) : Calls Try.prog 28 #[bptr b, .int .i64 t] w (TrimG w F b P t) := by
  obtain ⟨Z, v, h, hG, hP0, hL⟩ := h
  obtain ⟨n0, hn0⟩ : ∃ n, P.length = n := ⟨_, rfl⟩
  rw [hn0] at h hL
  have HN0 := Lib.hid hn0
  have HP := Lib.hid hP0
  clear hn0 hP0
  have CR := Lib.hid (bright_any h)
  have k2 := cellAt (o := 2) (v := .int .i64 fl) h.buf rfl
  have k3 := cellAt (o := 3) (v := .int .i64 (n0 : Int)) h.buf rfl
  have f2 := freeAt 2 h.buf
  have HX := setCell_get (o := 2) (u := .int .i64 t) h.buf
  have HS : Hid (BufC (w.setCell ⟨b, 2, none⟩ (.int .i64 t)) F b Z v t n0) := Lib.hid (h.refloor t)
  have HO : Hid (Only F w (w.setCell ⟨b, 2, none⟩ (.int .i64 t))) := Lib.hid ((Only.set w b 2 (.int .i64 t)).mono (fun k _ hk => hk ▸ h.inF))
  have HGd := Lib.hid hG
  clear HX hG
  go_enter Try.func28, Try.ntmps28
  go_wp2_with fail
  refine CR.out.mono ?_
  rintro e w1 ⟨rfl, rfl⟩
  go_wp2_with fail
  generalize (World.setCell w _ _) = W0 at *
  clear CR k2 k3 f2 h
  go_loopw [7] (fun x7 wr => ∃ m, TrR w F b P t wr m) (fun _ wr => least (TrR w F b P t wr))
  case atStart => exact ⟨_, Z, v, by rw [← HP.out, HN0.out]; exact HS.out, HGd.out, by rw [← HP.out], by rw [← HP.out]; exact Nat.le_refl _, HO.out, rfl⟩
  case round =>
    have hx := least_spec hrel
    obtain ⟨m2, hm2⟩ : ∃ m, least (TrR w F b P t wr) = m := ⟨_, rfl⟩
    rw [hm2] at hx
    clear hrel HS HO HGd HP
    have HM2 := Lib.hid hm2
    clear hm2
    obtain ⟨Z1, v1, h1, hG1, hA1, hN1, hO1, hm1⟩ := hx
    cases Z1 with
    | nil =>
      obtain ⟨A, c, rfl⟩ := h1.noB
      have k1 := cellAt (o := 1) h1.buf rfl
      have k3 := cellAt (o := 3) (v := .int .i64 0) h1.buf rfl
      have hw : IntKind.i64.wrap ((n0 : Int) - 0) = (n0 : Int) := by rw [IntKind.wrap_i64]; omega
      have HB1 := Lib.hid h1
      have HO1 := Lib.hid hO1
      have hae : aboveP t P = [] := hA1
      clear h1 hO1 hA1
      go_wp2_with fail
      refine bodyPost_ret (v := .tuple #[.int .i64 (n0 : Int), .int .i64 0]) (by simp only [results, Try.results28]; go_simp) rfl ⟨?_, ?_, HO1.out⟩
      · rw [hae, HN0.out]; rfl
      · rw [hae]; exact ⟨[], _, HB1.out, hG1, rfl, by simp⟩
    | cons z Z2 =>
      obtain ⟨x, X⟩ := z
      obtain ⟨g, o, c, rfl, q1, q2, q3, q4⟩ := h1.form (by simp)
      have a0 : wr.cell? ⟨g, o, none⟩ = some (.pointer (some ⟨x, 0, none⟩)) := q4 0 (by simp)
      have k1 := cellAt (o := 1) h1.buf rfl
      have hbl := (h1.blks (x, X) (by simp)).2
      have hrx : Rise X := hG1.split.1 _ (by simp)
      have hle := hbl.le
      obtain ⟨m, hm⟩ : ∃ m, cntLt t (tms X) = m := ⟨_, rfl⟩
      obtain ⟨ok, hok⟩ : ∃ x, hasT t X = x := ⟨_, rfl⟩
      have hcm : cntLe t X = if ok = true then m + 1 else m := by unfold cntLe; rw [hok, hm]
      have hkx := cntLe_le (t := t) hrx
      have HF := Lib.hid (bfind_any t hbl hrx)
      rw [hm, hok] at HF
      obtain ⟨k, hk⟩ : ∃ k, cntLe t X = k := ⟨_, rfl⟩
      have HK := Lib.hid hk
      rw [hk] at hcm hkx
      obtain ⟨c0, hc0, hC0⟩ := hbl
      obtain ⟨xn, hxn⟩ : ∃ xn, X.length = xn := ⟨_, rfl⟩
      rw [hxn] at hle hkx
      have hbx : b ≠ x := by rintro rfl; have e : wr.heap[b]? = _ := h1.buf; rw [hc0] at e; cases e
      have HXN := Lib.hid hxn
      have HC0 : Hid (wr.heap[x]? = some (.cells c0 107 (0, 0))) := Lib.hid hc0
      have HBC := Lib.hid hC0
      have HBF := Lib.hid h1
      have HO1 := Lib.hid hO1
      have HG1 := Lib.hid hG1
      have HA1 := Lib.hid hA1
      have HN1 := Lib.hid hN1
      obtain ⟨nn, hnn⟩ : ∃ nn, (List.map (fun (x : Blk) => x.2) ((x, X) :: Z2)).flatten.length = nn := ⟨_, rfl⟩
      rw [hnn] at HBF HN1
      have HNN := Lib.hid hnn
      have hall := arr_all x
      have hcut := arr_lh x k xn hkx hle
      clear h1 hO1 hG1 hA1 hN1 hc0 hC0 q4 q2 hrx hm hok hk hxn hnn
      have HKM : Hid ((k : Int) = if ok = true then (m : Int) + 1 else m) := Lib.hid (by rw [hcm]; split <;> simp)
      clear hcm
      cases ok
      · obtain rfl : k = m := by have := HKM.out; simp at this; omega
        go_wp2_with fail
        refine HF.out.mono ?_
        rintro e w1 ⟨rfl, hb1⟩
        have HB1 := Lib.hid hb1
        clear hb1 a0 k1
        go_wp2_with fail
        refine wp_region_here 13 [(0, false), (1, false), (2, false), (3, false), (4, false), (5, false), (6, false), (7, false), (8, false), (9, false), (10, false), (11, false), (12, false)] (fun _ => .cells #[] 0) (by kernel_rfl) (by kernel_rfl) ?_
        repeat (first | (refine wpP_q rfl rfl rfl ?_; apply Exists.intro; refine ⟨fun w' hw' => ?_, fun K hK => ?_⟩; (focus ((have hw := HB1.out.trans (hw'.mono HB1.out.size); have q0 := cellAt (o := 0) (keepB HC0.out hw) HBC.out.n; rw [HXN.out] at q0; clear hw); go_simp; first | exact quiet_value | fail)); simp only [Act.put, List.setIfInBounds_toArray, List.set_cons_zero, List.set_cons_succ]; refine hK.out _ ?_; clear hK K) | (refine wpP_skip rfl rfl rfl (fun K hK => ?_); simp only [Act.put, List.setIfInBounds_toArray, List.set_cons_zero, List.set_cons_succ]; refine hK.out _ ?_; clear hK K))
        refine wpP_nil ?_
        intro w2 hb2
        have HB2 := Lib.hid (HB1.out.trans (hb2.mono HB1.out.size))
        have HC2 := Lib.hid (keepB HC0.out HB2.out)
        clear hb2
        (try simp only [List.drop_succ_cons]); (try simp only [List.drop_zero]); (try simp only [List.drop_nil])
        refine wpL_copyP rfl _ _ rfl x 1 64 64 (if k = 64 then ⟨x, 1, none⟩ else ⟨x, 1 + k * 3, none⟩) (xn - k) (64 - k) rfl rfl c0 _ HC2.out (pcs (X.drop k)) ?hn ?hs ?hf (pcs_one _) ?_
        case hn =>
          have e : Nat.min (xn - k) 64 = xn - k := Nat.min_eq_left (by omega)
          rw [pcs_len, List.length_drop, HXN.out, e]
        case hs => exact trim_src HC2.out HBC.out HXN.out hle
        case hf => rw [pcs_len, List.length_drop, HXN.out, HBC.out.size]; omega
        intro w3 HC3 HO3
        have HO3' := Lib.hid ((Only.of_below HB2.out).trans HO3.out)
        have HB3 : Hid (w3.heap[b]? = _) := Lib.hid (HO3'.out.get HBF.out.buf hbx)
        have x0 := cellAt (o := 0) (v := .int .i64 (xn : Int)) HC3.out (by rw [HBC.out.trim0, HXN.out])
        have f0 := freeAt 0 HC3.out
        have b3 := cellAt (o := 3) (v := .int .i64 (nn : Int)) HB3.out rfl
        have fb3 := freeAt 3 HB3.out
        have b1 := cellAt (o := 1) (v := .slice (some ⟨g, o, none⟩) (Z2.length + 1) c) HB3.out rfl
        have fb1 := freeAt 1 HB3.out
        have hwx : IntKind.i64.wrap ((xn : Int) - (k : Int)) = ((xn - k : Nat) : Int) := by rw [IntKind.wrap_i64]; omega
        have hwn : IntKind.i64.wrap ((nn : Int) - (k : Int)) = ((nn - k : Nat) : Int) := by
          have h1 := HNN.out
          have h2 := HN1.out
          rw [List.map_cons, List.flatten_cons, List.length_append, HXN.out] at h1
          rw [HN0.out] at h2
          rw [IntKind.wrap_i64]; omega
        have hxb : x ≠ b := fun e => hbx e.symm
        have HT := Lib.hid (trim_step HBF.out HBC.out HXN.out hkx HO3'.out HC3.out hbx)
        have hww : IntKind.i64.wrap ((n0 : Int) - ((nn - k : Nat) : Int)) = ((n0 - (nn - k) : Nat) : Int) := by
          have h2 := HN1.out
          rw [HN0.out] at h2
          rw [IntKind.wrap_i64]; omega
        by_cases hkl : k < xn
        · obtain ⟨t1, t2⟩ := trim_above HG1.out HA1.out HK.out (by rw [HXN.out]; exact hkl)
          have HT1 := Lib.hid t1
          have HT2 := Lib.hid t2
          clear t1 t2
          have hlen : (aboveP t P).length = nn - k := by
            rw [HT1.out]
            exact trim_len HNN.out HXN.out hkx
          have HLN := Lib.hid hlen
          clear hlen
          go_wp2_with fail
          refine bodyPost_ret (v := .tuple #[.int .i64 ((n0 - (nn - k) : Nat) : Int), .int .i64 0]) (by simp only [results, Try.results28]; go_simp) rfl ⟨?_, ?_, ?_⟩
          · rw [HLN.out, HN0.out]
          · refine ⟨(x, X.drop k) :: Z2, _, by rw [HLN.out]; exact HT.out, HT2.out, HT1.out, by rw [HLN.out]; have := HN1.out; rw [HN0.out] at this; omega⟩
          · exact HO1.out.trans (trim_only HBF.out HO3'.out)
        · have HE := Lib.hid (show k = xn by omega)
          go_wp2_with fail
          have R : TrR w F b P t _ Z2.length := ⟨Z2, _, by rw [← trim_len0 HNN.out HXN.out HE.out]; exact trim_shift HT.out, HG1.out.tail, trim_none HG1.out HA1.out HK.out (HE.out.trans HXN.out.symm), by rw [← trim_len0 HNN.out HXN.out HE.out]; exact Nat.le_trans (Nat.sub_le _ _) HN1.out, (HO1.out.trans (trim_only HBF.out HO3'.out)).trans ((Only.set _ b 1 _).mono (fun i _ h => h ▸ HBF.out.inF)), rfl⟩
          refine ⟨⟨_, R⟩, Nat.lt_of_le_of_lt (least_le R) (Nat.lt_of_lt_of_eq ?_ HM2.out.symm)⟩
          rw [hm1]; simp
      · have hkm : (m : Int) + 1 = (k : Int) := by have := HKM.out; simp at this; omega
        have hwk : IntKind.i64.wrap ((m : Int) + 1) = (k : Int) := by rw [IntKind.wrap_i64]; omega
        go_wp2_with fail
        refine HF.out.mono ?_
        rintro e w1 ⟨rfl, hb1⟩
        have HB1 := Lib.hid hb1
        clear hb1 a0 k1
        go_wp2_with fail
        refine wp_region_here 13 [(0, false), (1, false), (2, false), (3, false), (4, false), (5, false), (6, false), (7, false), (8, false), (9, false), (10, false), (11, false), (12, false)] (fun _ => .cells #[] 0) (by kernel_rfl) (by kernel_rfl) ?_
        repeat (first | (refine wpP_q rfl rfl rfl ?_; apply Exists.intro; refine ⟨fun w' hw' => ?_, fun K hK => ?_⟩; (focus ((have hw := HB1.out.trans (hw'.mono HB1.out.size); have q0 := cellAt (o := 0) (keepB HC0.out hw) HBC.out.n; rw [HXN.out] at q0; clear hw); go_simp; first | exact quiet_value | fail)); simp only [Act.put, List.setIfInBounds_toArray, List.set_cons_zero, List.set_cons_succ]; refine hK.out _ ?_; clear hK K) | (refine wpP_skip rfl rfl rfl (fun K hK => ?_); simp only [Act.put, List.setIfInBounds_toArray, List.set_cons_zero, List.set_cons_succ]; refine hK.out _ ?_; clear hK K))
        refine wpP_nil ?_
        intro w2 hb2
        have HB2 := Lib.hid (HB1.out.trans (hb2.mono HB1.out.size))
        have HC2 := Lib.hid (keepB HC0.out HB2.out)
        clear hb2
        (try simp only [List.drop_succ_cons]); (try simp only [List.drop_zero]); (try simp only [List.drop_nil])
        refine wpL_copyP rfl _ _ rfl x 1 64 64 (if k = 64 then ⟨x, 1, none⟩ else ⟨x, 1 + k * 3, none⟩) (xn - k) (64 - k) rfl rfl c0 _ HC2.out (pcs (X.drop k)) ?hn ?hs ?hf (pcs_one _) ?_
        case hn =>
          have e : Nat.min (xn - k) 64 = xn - k := Nat.min_eq_left (by omega)
          rw [pcs_len, List.length_drop, HXN.out, e]
        case hs => exact trim_src HC2.out HBC.out HXN.out hle
        case hf => rw [pcs_len, List.length_drop, HXN.out, HBC.out.size]; omega
        intro w3 HC3 HO3
        have HO3' := Lib.hid ((Only.of_below HB2.out).trans HO3.out)
        have HB3 : Hid (w3.heap[b]? = _) := Lib.hid (HO3'.out.get HBF.out.buf hbx)
        have x0 := cellAt (o := 0) (v := .int .i64 (xn : Int)) HC3.out (by rw [HBC.out.trim0, HXN.out])
        have f0 := freeAt 0 HC3.out
        have b3 := cellAt (o := 3) (v := .int .i64 (nn : Int)) HB3.out rfl
        have fb3 := freeAt 3 HB3.out
        have b1 := cellAt (o := 1) (v := .slice (some ⟨g, o, none⟩) (Z2.length + 1) c) HB3.out rfl
        have fb1 := freeAt 1 HB3.out
        have hwx : IntKind.i64.wrap ((xn : Int) - (k : Int)) = ((xn - k : Nat) : Int) := by rw [IntKind.wrap_i64]; omega
        have hwn : IntKind.i64.wrap ((nn : Int) - (k : Int)) = ((nn - k : Nat) : Int) := by
          have h1 := HNN.out
          have h2 := HN1.out
          rw [List.map_cons, List.flatten_cons, List.length_append, HXN.out] at h1
          rw [HN0.out] at h2
          rw [IntKind.wrap_i64]; omega
        have hxb : x ≠ b := fun e => hbx e.symm
        have HT := Lib.hid (trim_step HBF.out HBC.out HXN.out hkx HO3'.out HC3.out hbx)
        have hww : IntKind.i64.wrap ((n0 : Int) - ((nn - k : Nat) : Int)) = ((n0 - (nn - k) : Nat) : Int) := by
          have h2 := HN1.out
          rw [HN0.out] at h2
          rw [IntKind.wrap_i64]; omega
        by_cases hkl : k < xn
        · obtain ⟨t1, t2⟩ := trim_above HG1.out HA1.out HK.out (by rw [HXN.out]; exact hkl)
          have HT1 := Lib.hid t1
          have HT2 := Lib.hid t2
          clear t1 t2
          have hlen : (aboveP t P).length = nn - k := by
            rw [HT1.out]
            exact trim_len HNN.out HXN.out hkx
          have HLN := Lib.hid hlen
          clear hlen
          go_wp2_with fail
          refine bodyPost_ret (v := .tuple #[.int .i64 ((n0 - (nn - k) : Nat) : Int), .int .i64 0]) (by simp only [results, Try.results28]; go_simp) rfl ⟨?_, ?_, ?_⟩
          · rw [HLN.out, HN0.out]
          · refine ⟨(x, X.drop k) :: Z2, _, by rw [HLN.out]; exact HT.out, HT2.out, HT1.out, by rw [HLN.out]; have := HN1.out; rw [HN0.out] at this; omega⟩
          · exact HO1.out.trans (trim_only HBF.out HO3'.out)
        · have HE := Lib.hid (show k = xn by omega)
          go_wp2_with fail
          have R : TrR w F b P t _ Z2.length := ⟨Z2, _, by rw [← trim_len0 HNN.out HXN.out HE.out]; exact trim_shift HT.out, HG1.out.tail, trim_none HG1.out HA1.out HK.out (HE.out.trans HXN.out.symm), by rw [← trim_len0 HNN.out HXN.out HE.out]; exact Nat.le_trans (Nat.sub_le _ _) HN1.out, (HO1.out.trans (trim_only HBF.out HO3'.out)).trans ((Only.set _ b 1 _).mono (fun i _ h => h ▸ HBF.out.inF)), rfl⟩
          refine ⟨⟨_, R⟩, Nat.lt_of_le_of_lt (least_le R) (Nat.lt_of_lt_of_eq ?_ HM2.out.symm)⟩
          rw [hm1]; simp
end
end Go.Proofs.Ytangcgfchalnaaa
